/- The walks of act.Holds, In, Where, Form, target. -/
import Derived.Test.YtioofkhadjaldaaActA
namespace Go.Proofs.Ytioofkhadjaldaa
open Go.RowKit
set_option linter.unusedVariables false
set_option maxRecDepth 100000

/-- A world's value is read, and its lengths are small. -/
structure RW4 (w : World) (x : AW) (A1 A2 A3 : Option Addr) (n1 n2 n3 c1 c2 c3 : Nat) : Prop where
  ra : RA w x A1 A2 A3
  l1 : x.place.length = n1
  l2 : x.seen.length = n2
  l3 : x.spot.length = n3
  b1 : n1 ≤ 100
  b2 : n2 ≤ 100
  b3 : n3 ≤ 100
  k1 : n1 ≤ c1
  k2 : n2 ≤ c2
  k3 : n3 ≤ c3
theorem RW4.below {w w' : World} {x : AW} {A1 A2 A3 : Option Addr} {n1 n2 n3 c1 c2 c3 : Nat} (h : RW4 w x A1 A2 A3 n1 n2 n3 c1 c2 c3) (hb : Below w.heap.size w w') : RW4 w' x A1 A2 A3 n1 n2 n3 c1 c2 c3 :=
  ⟨h.ra.below hb, h.l1, h.l2, h.l3, h.b1, h.b2, h.b3, h.k1, h.k2, h.k3⟩

section
variable (x : AW) (A1 A2 A3 : Option Addr) (n1 n2 n3 c1 c2 c3 : Nat) (w : World)
set_option maxHeartbeats 2000000 in
theorem Holds_any (hx : RW4 w x A1 A2 A3 n1 n2 n3 c1 c2 c3) (arm r : Int) (h1 : -1000 ≤ arm) (h2 : arm ≤ 1000) (hr : Hid (holdsP x arm = r)) :
    Calls Try.prog 9 #[.agg #[.int .i64 x.slots, .slice A1 n1 c1, .slice A2 n2 c2, .slice A3 n3 c3], .int .i64 arm] w fun e w' => e = .returned (.int .i64 r) ∧ Below w.heap.size w w' := by
  have H := Lib.hid hx
  have B0 := Lib.hid ((Below.refl w.heap.size w).alloc (Nat.le_refl _) (.cells #[.int .i64 x.slots, .slice A1 n1 c1, .slice A2 n2 c2, .slice A3 n3 c3] 25))
  have X0 := Lib.hid (Blk.new w 25 #[.int .i64 x.slots, .slice A1 n1 c1, .slice A2 n2 c2, .slice A3 n3 c3])
  have b3 := hx.b3
  have l3 := Lib.hid hx.l3
  clear hx
  by_cases ha : arm < 0
  · have hr2 : r = -1 := by rw [← hr.out, holdsP, if_pos (.inl ha)]
    subst hr2
    go_enter Try.func9, Try.ntmps9
    go_wp2_with fail
    go_ret
    exact ⟨rfl, B0.out⟩
  · by_cases hb : (n3 : Int) ≤ arm
    · have hr2 : r = -1 := by rw [← hr.out, holdsP, if_pos (.inr (by rw [l3.out]; exact hb))]
      subst hr2
      go_enter Try.func9, Try.ntmps9
      go_wp2_with fail
      go_ret
      exact ⟨rfl, B0.out⟩
    · have hr2 : Hid (idxI x.place (-2 - arm) = r) := by unfold Hid; rw [← hr.out, holdsP, if_neg (by rw [l3.out]; omega)]
      have R1 := Lib.hid (H.out.ra.place.below B0.out)
      go_enter Try.func9, Try.ntmps9
      go_wp2_with fail
      generalize hw3 : w.alloc (.cells #[.int .i64 x.slots, .slice A1 n1 c1, .slice A2 n2 c2, .slice A3 n3 c3] 25) = w3 at B0 X0 R1 ⊢
      clear hw3
      have x1 := fun s : Ext w3 => s.cell (X0.out.cell 1)
      refine wp_region_ext (by kernel_rfl) (by kernel_rfl) ?_
      repeat (go_big_quiet_step (fail))
      go_big_quiet_step ((go_at_call 33; refine Calls.ext_same (Held_any arm _ (by omega) (by omega))))
      go_big_quiet_step ((go_at_call 32; refine Calls.ext_same (indexI_any A1 n1 c1 x.place (-2 - arm) r _ (R1.out.below (Ext.h _)) H.out.l1 (by have := H.out.b1; omega) hr2)))
      repeat (go_big_quiet_step (fail))
      refine wpQuiet_nil ?_
      intro _ hw'
      obtain ⟨s, rfl⟩ := hw'
      go_wp2_with fail
      go_ret
      exact ⟨rfl, keep_below B0.out (Nat.le_refl _) s.h⟩

set_option maxHeartbeats 2000000 in
theorem In_any (hx : RW4 w x A1 A2 A3 n1 n2 n3 c1 c2 c3) (slot r : Int) (hr : Hid (inP x slot = r)) :
    Calls Try.prog 50 #[.agg #[.int .i64 x.slots, .slice A1 n1 c1, .slice A2 n2 c2, .slice A3 n3 c3], .int .i64 slot] w fun e w' => e = .returned (.int .i64 r) ∧ Below w.heap.size w w' := by
  have H := Lib.hid hx
  have B0 := Lib.hid ((Below.refl w.heap.size w).alloc (Nat.le_refl _) (.cells #[.int .i64 x.slots, .slice A1 n1 c1, .slice A2 n2 c2, .slice A3 n3 c3] 25))
  have R1 := Lib.hid (hx.ra.place.below B0.out)
  clear hx
  by_cases ha : slot < 0
  · have hr2 : r = -1 := by rw [← hr.out, inP, if_pos ha]
    subst hr2
    go_enter Try.func50, Try.ntmps50
    go_wp2_with fail
    go_ret
    exact ⟨rfl, B0.out⟩
  · have hr2 : Hid (idxI x.place slot = r) := by unfold Hid; rw [← hr.out, inP, if_neg ha]
    go_enter Try.func50, Try.ntmps50
    go_wp2_with fail
    refine (indexI_any A1 n1 c1 x.place slot r _ R1.out H.out.l1 (by have := H.out.b1; omega) hr2).mono ?_
    rintro e w2 ⟨rfl, rfl⟩
    go_wp2_with fail
    go_ret
    exact ⟨rfl, B0.out⟩
end

def whereP (x : AW) (part : Int) : Int :=
  if part < 0 then -1 else match x.place[part.toNat]? with
    | none => -1
    | some p => if p < -1 then -1 else if p = -1 then 8 + part else p

section
variable (x : AW) (A1 A2 A3 : Option Addr) (n1 n2 n3 c1 c2 c3 : Nat) (w : World)
set_option maxHeartbeats 2000000 in
theorem Where_any (hx : RW4 w x A1 A2 A3 n1 n2 n3 c1 c2 c3) (part r : Int) (hr : Hid (whereP x part = r)) :
    Calls Try.prog 66 #[.agg #[.int .i64 x.slots, .slice A1 n1 c1, .slice A2 n2 c2, .slice A3 n3 c3], .int .i64 part] w fun e w' => e = .returned (.int .i64 r) ∧ Below w.heap.size w w' := by
  have H := Lib.hid hx
  have B0 := Lib.hid ((Below.refl w.heap.size w).alloc (Nat.le_refl _) (.cells #[.int .i64 x.slots, .slice A1 n1 c1, .slice A2 n2 c2, .slice A3 n3 c3] 25))
  have R1 := Lib.hid (hx.ra.place.below B0.out)
  have b1 := hx.b1
  have l1 := Lib.hid hx.l1
  clear hx
  by_cases ha : part < 0
  · have hr2 : r = -1 := by rw [← hr.out, whereP, if_pos ha]
    subst hr2
    go_enter Try.func66, Try.ntmps66
    go_wp2_with fail
    go_ret
    exact ⟨rfl, B0.out⟩
  · obtain ⟨k, rfl⟩ := Int.eq_ofNat_of_zero_le (show 0 ≤ part by omega)
    by_cases hb : n1 ≤ k
    · have hr2 : r = -1 := by rw [← hr.out, whereP, if_neg ha, Int.toNat_natCast, List.getElem?_eq_none (by rw [l1.out]; exact hb)]
      subst hr2
      go_enter Try.func66, Try.ntmps66
      go_wp2_with fail
      go_ret
      exact ⟨rfl, B0.out⟩
    · obtain ⟨p, hp⟩ := some_at (l := x.place) (k := k) (by rw [l1.out]; omega)
      have hr2 : Hid ((if p < -1 then -1 else if p = -1 then (8 + (k : Int)) else p) = r) := by unfold Hid; rw [← hr.out, whereP, if_neg ha, Int.toNat_natCast, hp]
      obtain ⟨b, o, rfl, hlt, hc⟩ := R1.out (by rw [l1.out]; omega)
      have d0 := hc k p hp
      have g1 : IntKind.i64.wrap (8 + (k : Int)) = 8 + k := IntWalk.i64_in _ (by omega)
      clear hc hp hr
      by_cases hq : p < -1
      · have hr3 : r = -1 := by rw [← hr2.out, if_pos hq]
        subst hr3
        go_enter Try.func66, Try.ntmps66
        go_wp2_with fail
        go_ret
        exact ⟨rfl, B0.out⟩
      · by_cases hq1 : p = -1
        · subst hq1
          have hr3 : r = 8 + (k : Int) := by rw [← hr2.out, if_neg hq, if_pos rfl]
          subst hr3
          go_enter Try.func66, Try.ntmps66
          go_wp2_with fail
          go_ret
          exact ⟨rfl, B0.out⟩
        · have hr3 : r = p := by rw [← hr2.out, if_neg hq, if_neg hq1]
          subst hr3
          have hq2 : (r == -1) = false := by simpa using hq1
          go_enter Try.func66, Try.ntmps66
          go_wp2_with fail
          go_ret
          exact ⟨rfl, B0.out⟩
end
end Go.Proofs.Ytioofkhadjaldaa
