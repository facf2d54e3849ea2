/- The walks of slices.Index and slices.Contains at []int. -/
import Derived.Test.YtnmngjikcimpnaaProg
import Derived.Test.YtnmngjikcimpnaaLib
namespace Go.Proofs.Ytnmngjikcimpnaa
open Go.RowKit
set_option linter.unusedVariables false

set_option maxHeartbeats 400000 in
theorem index_any (A : Option Addr) (c : Nat) (xs : List Int) (v : Int) (w : World) (hR : RI w A xs) (hm : xs.length ≤ maxLen) :
    Calls Try.prog 34 #[.slice A xs.length c, .int .i64 v] w fun e w' => ∃ r, e = .returned (.int .i64 r) ∧ (v ∈ xs ↔ 0 ≤ r) ∧ -1 ≤ r ∧ r ≤ maxLen ∧ w = w' := by
  have HR := Lib.hid hR; clear hR
  unfold maxLen at hm ⊢
  go_enter Try.func34, Try.ntmps34
  go_wp2
  go_loop [8] (fun i => ∃ k : Nat, k ≤ xs.length ∧ i = .int .i64 k ∧ Hid (v ∉ xs.take k)) (fun i => xs.length - (intOf i).toNat)
  case atStart => exact ⟨0, by omega, rfl, by simp [Hid]⟩
  case round =>
    obtain ⟨k, hk, rfl, hno⟩ := hrel
    by_cases hlt : k < xs.length
    · obtain ⟨b, o, rfl, hb, hc⟩ := HR.out (by omega)
      obtain ⟨x, hx⟩ := some_at hlt
      have c1 := hc k x hx
      have Hx := Lib.hid hx
      clear hc hx
      by_cases hv : v = x
      · subst hv
        have hq : (v == v) = true := by simp
        go_wp2
        go_ret
        exact ⟨k, rfl, ⟨fun _ => by omega, fun _ => List.mem_of_getElem? Hx.out⟩, by omega, by omega, rfl⟩
      · have hq : (v == x) = false := by simpa using hv
        have Hv := Lib.hid hv
        clear hv
        go_wp2
        go_round
        case rel =>
          refine ⟨k + 1, by omega, by go_num, ?_⟩
          have := hno.out
          have h2 := Hv.out
          unfold Hid
          rw [List.take_add_one, Hx.out]
          simpa using ⟨this, h2⟩
        case measure => simp [intOf]; omega
    · have hkx : k = xs.length := by omega
      have hno' : v ∉ xs := by have := hno.out; rwa [hkx, List.take_length] at this
      have Hn := Lib.hid hno'
      clear hno'
      go_wp2
      go_ret
      exact ⟨-1, rfl, ⟨fun h => absurd h Hn.out, fun h => by omega⟩, by omega, by omega, rfl⟩

set_option maxHeartbeats 400000 in
theorem contains_any (A : Option Addr) (n c : Nat) (xs : List Int) (v : Int) (r : Bool) (w : World) (hR : RI w A xs) (hn : xs.length = n) (hm : n ≤ maxLen) (hr : Hid (r = decide (v ∈ xs))) :
    Calls Try.prog 33 #[.slice A n c, .int .i64 v] w fun e w' => e = .returned (.bool r) ∧ w = w' := by
  subst hn
  have HR := Lib.hid hR; clear hR
  have Hm := Lib.hid hm; clear hm
  go_enter Try.func33, Try.ntmps33
  go_wp2_with (go_at_call 34; refine (index_any _ _ _ _ _ HR.out Hm.out).mono ?_; rintro e w' ⟨q, rfl, hq, hq1, hq2, rfl⟩; have Hq := Lib.hid hq; clear hq)
  go_ret
  refine ⟨ret_bool ?_, rfl⟩
  rw [hr.out]
  by_cases hv : v ∈ xs
  · have := Hq.out.1 hv
    simp [hv, this]
  · have : ¬ 0 ≤ q := fun h => hv (Hq.out.2 h)
    simp [hv, this]
end Go.Proofs.Ytnmngjikcimpnaa
