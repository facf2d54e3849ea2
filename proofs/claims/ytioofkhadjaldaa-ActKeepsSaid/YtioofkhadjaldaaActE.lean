/- The walk of act.Check at a valid world. -/
import Derived.Test.YtioofkhadjaldaaActB
namespace Go.Proofs.Ytioofkhadjaldaa
open Go.RowKit
set_option linter.unusedVariables false
set_option maxRecDepth 100000

theorem RI.take_ {w : World} {A : Option Addr} {xs : List Int} (h : RI w A xs) (n : Nat) : RI w A (xs.take n) := by
  intro hp
  obtain ⟨b, o, rfl, hlt, hc⟩ := h (by rw [List.length_take] at hp; omega)
  refine ⟨b, o, rfl, hlt, fun j x hj => hc j x ?_⟩
  rw [List.getElem?_take] at hj
  split at hj
  · exact hj
  · cases hj

/-- A valid world. -/
structure ValidA (x : AW) : Prop where
  s0 : 0 ≤ x.slots
  s8 : x.slots ≤ 8
  p6 : x.place.length ≤ 6
  a4 : x.spot.length ≤ 4
  sp : x.seen.length = x.place.length
  place : ∀ (i : Nat) (p : Int), x.place[i]? = some p → p < x.slots ∧ -1 - (x.spot.length : Int) ≤ p ∧ (p ≠ -1 → p ∉ x.place.take i)
  spot : ∀ (i : Nat) (s : Int), x.spot[i]? = some s → -1 ≤ s ∧ (s < x.slots ∨ 8 ≤ s) ∧ s < 8 + (x.place.length : Int) ∧ (s ≠ -1 → s ∉ x.spot.take i)

set_option maxHeartbeats 8000000 in
theorem Check_ok (x : AW) (A1 A2 A3 : Option Addr) (n1 n2 n3 c1 c2 c3 : Nat) (w : World) (hx : RW4 w x A1 A2 A3 n1 n2 n3 c1 c2 c3) (hv : ValidA x) :
    Calls Try.prog 21 #[.agg #[.int .i64 x.slots, .slice A1 n1 c1, .slice A2 n2 c2, .slice A3 n3 c3]] w fun e w' => e = .returned (.int .i64 0) ∧ Below w.heap.size w w' := by
  have V := Lib.hid hv
  have hn21 : n2 = n1 := by rw [← hx.l1, ← hx.l2]; exact hv.sp
  subst hn21
  have s0 := hv.s0
  have s8 := hv.s8
  have p6 : n2 ≤ 6 := by rw [← hx.l1]; exact hv.p6
  have a4 : n3 ≤ 4 := by rw [← hx.l3]; exact hv.a4
  have k1 := hx.k1
  have k3 := hx.k3
  have B1 := Lib.hid ((Below.refl w.heap.size w).alloc (Nat.le_refl _) (.cells #[.int .i64 x.slots, .slice A1 n2 c1, .slice A2 n2 c2, .slice A3 n3 c3] 25))
  have X1 := Lib.hid (Blk.new w 25 #[.int .i64 x.slots, .slice A1 n2 c1, .slice A2 n2 c2, .slice A3 n3 c3])
  have H1 := Lib.hid (hx.below B1.out)
  have g1 : IntKind.i64.wrap ((n3 : Int) - 1) = n3 - 1 := IntWalk.i64_in _ (by omega)
  clear hx hv
  go_enter Try.func21, Try.ntmps21
  go_wp2_with fail
  generalize hw1 : w.alloc (.cells #[.int .i64 x.slots, .slice A1 n2 c1, .slice A2 n2 c2, .slice A3 n3 c3] 25) = w1 at B1 X1 H1 ⊢
  clear hw1
  have x0 := X1.out.cell 0
  have x1 := X1.out.cell 1
  have x2 := X1.out.cell 2
  have x3 := X1.out.cell 3
  go_loopw [37] (fun i wr => ∃ k : Nat, i = .int .i64 k ∧ k ≤ n2 ∧ w1 = wr) (fun i _ => n2 - (intOf i).toNat)
  case atStart => exact ⟨0, rfl, by omega, rfl⟩
  case round =>
    obtain ⟨k, rfl, hk, rfl⟩ := hrel
    by_cases hlt : k < n2
    · obtain ⟨p, hp⟩ := some_at (l := x.place) (k := k) (by rw [H1.out.l1]; exact hlt)
      obtain ⟨b, o, hA, hb, hc⟩ := H1.out.ra.place (by have := lt_of_at hp; omega)
      subst hA
      have d0 := hc k p hp
      obtain ⟨v1, v2, v3⟩ := V.out.place k p hp
      rw [H1.out.l3] at v2
      have V3 := Lib.hid v3
      have LP := Lib.hid (show (x.place.take k).length = k by rw [List.length_take, H1.out.l1]; omega)
      have hkc : k ≤ c1 := by omega
      clear hc hp v3
      by_cases hp1 : p = -1
      · subst hp1
        clear V3
        go_wp2_with (go_at_call 33; refine (Held_any _ _ (by omega) (by omega)).mono ?_; rintro e w' ⟨rfl, rfl⟩)
        go_roundw
        case rel => exact ⟨k + 1, by go_num, hlt, by trivial⟩
        case measure => simp [intOf]; omega
      · have hq : (p != -1) = true := by simpa using hp1
        have hq2 : Hid (false = decide (p ∈ x.place.take k)) := by simp [Hid, V3.out hp1]
        clear V3 hp1
        go_wp2_with (go_at_call 33; refine (Held_any _ _ (by omega) (by omega)).mono ?_; rintro e w' ⟨rfl, rfl⟩)
        refine (containsI_any _ k c1 (x.place.take k) p false _ (H1.out.ra.place.take_ k) LP.out (by omega) hq2).mono ?_
        rintro e w' ⟨rfl, rfl⟩
        go_wp2_with fail
        go_roundw
        case rel => exact ⟨k + 1, by go_num, hlt, by trivial⟩
        case measure => simp [intOf]; omega
    · clear hk
      go_wp2_with fail
      go_loopw [69] (fun i wr => ∃ k : Nat, i = .int .i64 k ∧ k ≤ n3 ∧ w1 = wr) (fun i _ => n3 - (intOf i).toNat)
      case atStart => exact ⟨0, rfl, by omega, rfl⟩
      case round =>
        obtain ⟨k, rfl, hk, rfl⟩ := hrel
        by_cases hlt : k < n3
        · obtain ⟨p, hp⟩ := some_at (l := x.spot) (k := k) (by rw [H1.out.l3]; exact hlt)
          obtain ⟨b, o, hA, hb, hc⟩ := H1.out.ra.spot (by have := lt_of_at hp; omega)
          subst hA
          have d0 := hc k p hp
          obtain ⟨v1, v2, v3, v4⟩ := V.out.spot k p hp
          rw [H1.out.l1] at v3
          have V4 := Lib.hid v4
          have LP := Lib.hid (show (x.spot.take k).length = k by rw [List.length_take, H1.out.l3]; omega)
          have hkc : k ≤ c3 := by omega
          have g2 : IntKind.i64.wrap (8 + (n2 : Int)) = 8 + n2 := IntWalk.i64_in _ (by omega)
          clear hc hp v4
          by_cases hp1 : p = -1
          · subst hp1
            clear V4
            rcases v2 with v2 | v2
            · go_wp2_with fail
              go_roundw
              case rel => exact ⟨k + 1, by go_num, hlt, by trivial⟩
              case measure => simp [intOf]; omega
            · exact absurd v2 (by omega)
          · have hq : (p != -1) = true := by simpa using hp1
            have hq2 : Hid (false = decide (p ∈ x.spot.take k)) := by simp [Hid, V4.out hp1]
            clear V4 hp1
            rcases v2 with v2 | v2
            all_goals
              go_wp2_with fail
              refine (containsI_any _ k c3 (x.spot.take k) p false _ (H1.out.ra.spot.take_ k) LP.out (by omega) hq2).mono ?_
              rintro e w' ⟨rfl, rfl⟩
              go_wp2_with fail
              go_roundw
              case rel => exact ⟨k + 1, by go_num, hlt, by trivial⟩
              case measure => simp [intOf]; omega
        · go_wp2_with fail
          go_ret
          exact ⟨rfl, B1.out⟩
end Go.Proofs.Ytioofkhadjaldaa
