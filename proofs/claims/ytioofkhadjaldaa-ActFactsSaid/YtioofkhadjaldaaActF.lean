/- The walk of act.Can at a valid world. -/
import Derived.Test.YtioofkhadjaldaaActD
import Derived.Test.YtioofkhadjaldaaActE
namespace Go.Proofs.Ytioofkhadjaldaa
open Go.RowKit
set_option linter.unusedVariables false
set_option maxRecDepth 100000

theorem may_any (x : AW) (A1 A2 A3 : Option Addr) (n1 n3 c1 c2 c3 : Nat) (k : Nat) (kind part slot ticks : Int) (w : World) (hx : RW4 w x A1 A2 A3 n1 n1 n3 c1 c2 c3) (hf : formP ⟨kind, k, part, slot, ticks⟩) (hkn : k < n3) (hp : part < n1) (r : Int) (hr : Hid (mayP x ⟨kind, k, part, slot, ticks⟩ = r)) :
    Calls Try.prog 46 #[.agg #[.int .i64 x.slots, .slice A1 n1 c1, .slice A2 n1 c2, .slice A3 n3 c3], .agg #[.int .i64 kind, .int .i64 k, .int .i64 part, .int .i64 slot, .int .i64 ticks]] w fun e w' => e = .returned (.int .i64 r) ∧ Below w.heap.size w w' := by
  have hk : kind = 0 ∨ kind = 1 ∨ kind = 3 ∨ kind = 2 ∨ kind = 4 := by have h := hf; unfold formP at h; dsimp only at h; omega
  rcases hk with rfl | rfl | rfl | rfl | rfl
  · exact may_go x A1 A2 A3 n1 n3 c1 c2 c3 k part slot ticks w hx hf hkn hp r hr
  · exact may_take x A1 A2 A3 n1 n3 c1 c2 c3 k part slot ticks w hx hf hkn hp r hr
  · exact may_look x A1 A2 A3 n1 n3 c1 c2 c3 k part slot ticks w hx hf hkn hp r hr
  · exact may_put x A1 A2 A3 n1 n3 c1 c2 c3 k part slot ticks w hx hf hkn hp r hr
  · exact may_wait x A1 A2 A3 n1 n3 c1 c2 c3 k part slot ticks w hx hf hkn hp r hr

/-- What Can says at a valid world. -/
def canP (x : AW) (s : St) : Int := if ¬ formP s then 3 else if (x.spot.length : Int) ≤ s.arm ∨ (x.place.length : Int) ≤ s.part ∨ x.slots ≤ s.slot then 4 else mayP x s

set_option maxHeartbeats 8000000 in
theorem Can_any (x : AW) (A1 A2 A3 : Option Addr) (n1 n3 c1 c2 c3 : Nat) (kind arm part slot ticks : Int) (w : World) (hx : RW4 w x A1 A2 A3 n1 n1 n3 c1 c2 c3) (hv : ValidA x) (r : Int) (hr : Hid (canP x ⟨kind, arm, part, slot, ticks⟩ = r)) :
    Calls Try.prog 18 #[.agg #[.int .i64 x.slots, .slice A1 n1 c1, .slice A2 n1 c2, .slice A3 n3 c3], .agg #[.int .i64 kind, .int .i64 arm, .int .i64 part, .int .i64 slot, .int .i64 ticks]] w fun e w' => e = .returned (.int .i64 r) ∧ Below w.heap.size w w' := by
  have B1 := Lib.hid ((Below.refl w.heap.size w).alloc (Nat.le_refl _) (.cells #[.int .i64 x.slots, .slice A1 n1 c1, .slice A2 n1 c2, .slice A3 n3 c3] 25))
  have B2 := Lib.hid (B1.out.alloc B1.out.size (.cells #[.int .i64 kind, .int .i64 arm, .int .i64 part, .int .i64 slot, .int .i64 ticks] 39))
  have X2 := Lib.hid ((Blk.new w 25 #[.int .i64 x.slots, .slice A1 n1 c1, .slice A2 n1 c2, .slice A3 n3 c3]).alloc (.cells #[.int .i64 kind, .int .i64 arm, .int .i64 part, .int .i64 slot, .int .i64 ticks] 39))
  have Y2 := Lib.hid (Blk.new (w.alloc (.cells #[.int .i64 x.slots, .slice A1 n1 c1, .slice A2 n1 c2, .slice A3 n3 c3] 25)) 39 #[.int .i64 kind, .int .i64 arm, .int .i64 part, .int .i64 slot, .int .i64 ticks])
  simp only [World.size_alloc] at Y2
  have H2 := Lib.hid (hx.below B2.out)
  have V := Lib.hid hv
  have Z2 := Lib.hid B2.out.size
  clear hx hv B1
  go_enter Try.func18, Try.ntmps18
  go_wp2_with fail
  refine (Check_ok x A1 A2 A3 n1 n1 n3 c1 c2 c3 _ H2.out V.out).mono ?_
  rintro e w3 ⟨rfl, hb⟩
  have B3 := Lib.hid (B2.out.trans (hb.mono Z2.out))
  have X3 := Lib.hid (X2.out.below hb X2.out.lt)
  have Y3 := Lib.hid (Y2.out.below hb Y2.out.lt)
  have H3 := Lib.hid (H2.out.below hb)
  have Z3 := Lib.hid B3.out.size
  clear hb X2 Y2 H2 B2 Z2
  have y0 := Y3.out.cell 0
  have y1 := Y3.out.cell 1
  have y2 := Y3.out.cell 2
  have y3 := Y3.out.cell 3
  have y4 := Y3.out.cell 4
  go_wp2_with fail
  obtain ⟨rf, hrf⟩ : ∃ rf, rf = decide (formP ⟨kind, arm, part, slot, ticks⟩) := ⟨_, rfl⟩
  refine (Form_any ⟨kind, arm, part, slot, ticks⟩ _ rf hrf).mono ?_
  rintro e w4 ⟨rfl, hb⟩
  have B4 := Lib.hid (B3.out.trans (hb.mono Z3.out))
  have X4 := Lib.hid (X3.out.below hb X3.out.lt)
  have Y4 := Lib.hid (Y3.out.below hb Y3.out.lt)
  have H4 := Lib.hid (H3.out.below hb)
  have Z4 := Lib.hid B4.out.size
  have HRF := Lib.hid hrf
  clear hb X3 Y3 H3 B3 Z3 y0 y1 y2 y3 y4 hrf
  cases rf with
  | false =>
    have hr3 : r = 3 := by rw [← hr.out, canP, if_pos (of_decide_eq_false HRF.out.symm)]
    subst hr3
    go_wp2_with fail
    go_ret
    exact ⟨rfl, B4.out⟩
  | true =>
    have hf := of_decide_eq_true HRF.out.symm
    have ha0 : 0 ≤ arm := by have h := hf; unfold formP at h; dsimp only at h; omega
    obtain ⟨k, rfl⟩ := Int.eq_ofNat_of_zero_le ha0
    have HF := Lib.hid hf
    have L1 := H4.out.l1
    have L3 := H4.out.l3
    have y0 := Y4.out.cell 0
    have y1 := Y4.out.cell 1
    have y2 := Y4.out.cell 2
    have y3 := Y4.out.cell 3
    have y4 := Y4.out.cell 4
    have x0 := X4.out.cell 0
    have x1 := X4.out.cell 1
    have x2 := X4.out.cell 2
    have x3 := X4.out.cell 3
    by_cases hbad : (n3 : Int) ≤ k ∨ (n1 : Int) ≤ part ∨ x.slots ≤ slot
    · have hr3 : r = 4 := by
        rw [← hr.out, canP, if_neg (by simpa using hf), if_pos]
        rw [L1, L3]; exact hbad
      subst hr3
      clear hr hf HF HRF L1 L3 ha0
      by_cases q1 : (n3 : Int) ≤ k
      · clear hbad
        go_wp2_with fail
        go_ret
        exact ⟨rfl, B4.out⟩
      · by_cases q2 : (n1 : Int) ≤ part
        · clear hbad
          go_wp2_with fail
          go_ret
          exact ⟨rfl, B4.out⟩
        · have q3 : x.slots ≤ slot := by omega
          clear hbad
          go_wp2_with fail
          go_ret
          exact ⟨rfl, B4.out⟩
    · have hr3 : Hid (mayP x ⟨kind, k, part, slot, ticks⟩ = r) := by
        unfold Hid
        rw [← hr.out, canP, if_neg (by simpa using hf), if_neg]
        rw [L1, L3]; exact hbad
      have q1 : (k : Int) < n3 := by omega
      have q2 : part < n1 := by omega
      have q3 : slot < x.slots := by omega
      clear hr hf HRF L1 L3 ha0 hbad
      go_wp2_with fail
      refine (may_any x A1 A2 A3 n1 n3 c1 c2 c3 k kind part slot ticks _ H4.out HF.out (by omega) q2 r hr3).mono ?_
      rintro e w5 ⟨rfl, hb⟩
      have B5 := Lib.hid (B4.out.trans (hb.mono Z4.out))
      clear hb
      go_wp2_with fail
      go_ret
      exact ⟨rfl, B5.out⟩
end Go.Proofs.Ytioofkhadjaldaa
