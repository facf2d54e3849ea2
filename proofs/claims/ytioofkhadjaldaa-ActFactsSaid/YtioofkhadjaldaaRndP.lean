/- Plain: a part that is taken from its slot and put back is where it was. -/
import Derived.Test.YtioofkhadjaldaaActK
namespace Go.Proofs.Ytioofkhadjaldaa
open Go.RowKit
set_option linter.unusedVariables false
set_option linter.unusedSectionVars false

abbrev lookS (a p : Nat) : St := ⟨3, a, p, -1, 0⟩
abbrev takeS (a p : Nat) : St := ⟨1, a, p, -1, 0⟩
abbrev putS (a : Nat) (at' : Int) : St := ⟨2, a, -1, at', 0⟩
section
variable {x : AW} {a p : Nat} {q : Int} (hv : ValidA x) (hp : x.place[p]? = some q) (hq : 0 ≤ q) (ha : x.spot[a]? = some q)
include hv hp hq ha
theorem rnd_where : whereP x p = q := by
  unfold whereP
  rw [if_neg (by omega), Int.toNat_natCast, hp]
  simp only
  rw [if_neg (by omega), if_neg (by omega)]
theorem rnd_hold (hh : ¬ 0 ≤ holdsP x a) : (-2 - (a : Int)) ∉ x.place := not_holds (by omega) (by have := lt_of_at ha; omega) hh
theorem rnd_look (hh : ¬ 0 ≤ holdsP x a) (hs : x.seen[p]? = some false) : canP x (lookS a p) = 0 ∧ doS x (lookS a p) = { x with seen := x.seen.set p true } := by
  have hw := rnd_where hv hp hq ha
  have h1 := lt_of_at hp
  have h2 := lt_of_at ha
  constructor
  · unfold canP
    rw [if_neg (by simp [formP, lookS]), if_neg (by simp only [lookS]; have := hv.s0; omega)]
    unfold mayP
    simp only [lookS, targetP, show ¬ (3 : Int) = 0 by decide, show ¬ (3 : Int) = 1 by decide, if_false, if_true]
    rw [if_neg hh, if_pos (show (0 : Int) ≤ (p : Int) by omega), hw, Int.toNat_natCast, ha, Int.toNat_natCast, hs]
    rw [if_neg (by simp; omega), if_neg (by simp)]
  · simp [doS, lookS]
theorem rnd_take (hh : ¬ 0 ≤ holdsP x a) (hs : x.seen[p]? = some true) : canP x (takeS a p) = 0 ∧ doS x (takeS a p) = { x with place := x.place.set p (-2 - (a : Int)) } := by
  have hw := rnd_where hv hp hq ha
  have h1 := lt_of_at hp
  have h2 := lt_of_at ha
  constructor
  · unfold canP
    rw [if_neg (by simp [formP, takeS]), if_neg (by simp only [takeS]; have := hv.s0; omega)]
    unfold mayP
    simp only [takeS, targetP, show ¬ (1 : Int) = 0 by decide, if_false, if_true]
    rw [if_neg hh, if_pos (show (0 : Int) ≤ (p : Int) by omega), hw, Int.toNat_natCast, ha, Int.toNat_natCast, hs]
    rw [if_neg (by simp; omega), if_pos rfl]
  · simp [doS, takeS]
theorem rnd_put (hh : ¬ 0 ≤ holdsP x a) : canP { x with place := x.place.set p (-2 - (a : Int)) } (putS a q) = 0 ∧ doS { x with place := x.place.set p (-2 - (a : Int)) } (putS a q) = { x with seen := x.seen.set p false } := by
  have hn := rnd_hold hv hp hq ha hh
  have h1 := lt_of_at hp
  have h2 := lt_of_at ha
  have hb := ((validA_iff x).1 hv).2.2.2.2.2.1 q (List.mem_of_getElem? hp)
  have hd := ((validA_iff x).1 hv).2.2.2.2.2.2.1
  have hho : holdsP { x with place := x.place.set p (-2 - (a : Int)) } a = p := by
    unfold holdsP
    rw [if_neg (by simp only; omega)]
    refine idxI_at (by simp [h1]) ?_
    intro hm
    obtain ⟨i, hi⟩ := List.mem_iff_getElem?.1 hm
    rw [List.getElem?_take] at hi
    split at hi
    · simp only [List.getElem?_set] at hi
      rw [if_neg (by omega)] at hi
      exact hn (List.mem_of_getElem? hi)
    · cases hi
  have hin : ¬ 0 ≤ inP { x with place := x.place.set p (-2 - (a : Int)) } q := by
    unfold inP
    rw [if_neg (by omega), idxI_no]
    · decide
    · intro hm
      obtain ⟨i, hi⟩ := List.mem_iff_getElem?.1 hm
      simp only [List.getElem?_set] at hi
      split at hi
      · first
        | (injection hi with hi; omega)
        | (split at hi
           · injection hi with hi; omega
           · cases hi)
      · rename_i hne
        rcases Nat.lt_or_gt_of_ne hne with h | h
        · have := hd p i q h hp hi; omega
        · have := hd i p q h hi hp; omega
  constructor
  · unfold canP
    rw [if_neg (by simp [formP, putS]; omega), if_neg (by simp only [putS]; omega)]
    unfold mayP
    simp only [putS, targetP, show ¬ (2 : Int) = 0 by decide, show ¬ (2 : Int) = 1 by decide, show ¬ (2 : Int) = 3 by decide, if_false, if_true]
    rw [hho, if_neg (show ¬ (0 : Int) ≤ -1 by decide), Int.toNat_natCast]
    rw [if_neg (by
      intro h
      rcases h with h | h
      · exact h (by omega)
      · exact h ⟨by omega, ha⟩), if_neg hin]
  · simp only [doS, putS, show ¬ (2 : Int) = 0 by decide, show ¬ (2 : Int) = 1 by decide, show ¬ (2 : Int) = 3 by decide, if_false, if_true]
    rw [hho, Int.toNat_natCast, List.set_set]
    have e : x.place.set p q = x.place := by
      apply List.ext_getElem?
      intro i
      rw [List.getElem?_set]
      split
      · rename_i he; subst he; first | rw [hp] | rw [if_pos h1, hp]
      · rfl
    rw [e]
theorem rnd_two (hh : ¬ 0 ≤ holdsP x a) (hs : x.seen[p]? = some true) : runL x [takeS a p, putS a q] = some { x with seen := x.seen.set p false } := by
  obtain ⟨t1, t2⟩ := rnd_take hv hp hq ha hh hs
  obtain ⟨p1, p2⟩ := rnd_put hv hp hq ha hh
  rw [runL_cons, if_pos t1, t2, runL_cons, if_pos p1, p2, runL_nil]
theorem rnd_three (hh : ¬ 0 ≤ holdsP x a) (hs : x.seen[p]? = some false) : runL x [lookS a p, takeS a p, putS a q] = some { x with seen := x.seen.set p false } := by
  obtain ⟨l1, l2⟩ := rnd_look hv hp hq ha hh hs
  have hv2 := valid_do hv l1
  rw [l2] at hv2
  have hp1 := lt_of_at hs
  have h3 := rnd_two (x := { x with seen := x.seen.set p true }) hv2 hp hq ha hh (by simp [hp1])
  rw [runL_cons, if_pos l1, l2, h3]
  simp
end
end Go.Proofs.Ytioofkhadjaldaa
