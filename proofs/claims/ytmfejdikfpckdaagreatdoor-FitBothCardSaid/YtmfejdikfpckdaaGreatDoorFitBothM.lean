/- gantkeep4.FitBoth. Printed by gen/fitn.py. -/
import Derived.Test.YtmfejdikfpckdaaGreatDoorFb24
namespace Go.Proofs.YtmfejdikfpckdaaGreatDoor
open Go.RowKit
set_option linter.unusedVariables false
set_option maxRecDepth 100000

set_option maxHeartbeats 8000000 in
theorem both_core (S : Sd) (i k j l : Int) (w : World) (hS : Hid (S.ok w)) (hi : -9223372036854775808 ≤ i ∧ i ≤ 9223372036854775807) (hk : -9223372036854775808 ≤ k ∧ k ≤ 9223372036854775807) (hj : -9223372036854775808 ≤ j ∧ j ≤ 9223372036854775807) (hl : -9223372036854775808 ≤ l ∧ l ≤ 9223372036854775807) (hT : Tb w) :
    Calls Tryz.prog 3 #[.slice S.A S.xs.length S.c, .int .i64 i, .int .i64 k, .int .i64 j, .int .i64 l] w fun e w' => e = .returned (.bool true) ∧ Below w.heap.size w w' := by
  have H := Lib.hid (Hp.start hT)
  clear hT
  go_enter Tryz.func3, Tryz.ntmps3
  go_wp2_with (first
      | go_skip
      | ((with_reducible refine isLoad ?_); refine ldA (hT := rWks) H ?_)
      | ((with_reducible refine isAlloc ?_); refine alA (hz := zWks) H ?_; clear H; intro _ _ H)
      | ((with_reducible refine isStore ?_); refine stA (hT := rWks) H ?_; clear H; intro _ H)
      | ((with_reducible refine isLoad ?_); refine ldA H ?_)
      | ((with_reducible refine isLoad ?_); refine ld1A H ?_)
      | ((with_reducible refine isStore ?_); refine stA H ?_; clear H; intro _ H)
      | ((with_reducible refine isStore ?_); refine st1A H ?_; clear H; intro _ H)
      | ((with_reducible refine isBox ?_); refine bxA H ?_; clear H; intro _ _ H)
      | ((with_reducible refine isAlloc ?_); refine alA H ?_; clear H; intro _ _ H))
  refine (wrk_any S _ (Lib.hid (hS.out.below H.out.bel)) H.out.tb).mono ?_
  rintro _ w5 ⟨⟨v, ps, ss, ws, rfl, hwk, hp, hs, hw, lp, ls, lw⟩, hb⟩
  have H0 := Lib.hid (H.out.go hb)
  clear H hb
  have H := Lib.hid (Hp.start H0.out.tb)
  have W0 := Lib.hid hwk
  have PK := Lib.hid hp
  have SK := Lib.hid hs
  have WLK := Lib.hid hw
  clear hwk hp hs hw
  obtain ⟨⟨a1, a2, a3, a4, a5, n1, n5, c1, c2, c3, c4, c5, wb, w1, w2, rfl, RW, RP, RS⟩, HPL, HWL⟩ := W0.out
  clear RW RP RS HPL HWL
  by_cases hne : 0 < ps.length ∧ 0 < ss.length
  · have dne : decide (0 < ps.length ∧ 0 < ss.length) = true := decide_eq_true hne
    rw [dne]
    clear dne
    obtain ⟨hnp, hns⟩ := hne
    go_wp2_with (first
        | go_skip
        | ((with_reducible refine isLoad ?_); refine ldA (hT := rWks) H ?_)
        | ((with_reducible refine isAlloc ?_); refine alA (hz := zWks) H ?_; clear H; intro _ _ H)
        | ((with_reducible refine isStore ?_); refine stA (hT := rWks) H ?_; clear H; intro _ H)
        | ((with_reducible refine isLoad ?_); refine ldA H ?_)
        | ((with_reducible refine isLoad ?_); refine ld1A H ?_)
        | ((with_reducible refine isStore ?_); refine stA H ?_; clear H; intro _ H)
        | ((with_reducible refine isStore ?_); refine st1A H ?_; clear H; intro _ H)
        | ((with_reducible refine isBox ?_); refine bxA H ?_; clear H; intro _ _ H)
        | ((with_reducible refine isAlloc ?_); refine alA H ?_; clear H; intro _ _ H))
    obtain ⟨m1, E1, b1⟩ := mod_at i hnp
    obtain ⟨m2, E2, b2⟩ := mod_at k hnp
    obtain ⟨m3, E3, b3⟩ := mod_at j hns
    obtain ⟨m4, E4, b4⟩ := mod_at l hns
    obtain ⟨p1, G1, g1⟩ := item_at b1
    obtain ⟨p2, G2, g2⟩ := item_at b2
    obtain ⟨s1, G3, g3⟩ := item_at b3
    obtain ⟨s2, G4, g4⟩ := item_at b4
    refine (fitted_any _ H.out.tb).mono ?_
    rintro _ _ ⟨rfl, hb⟩
    replace H := Lib.hid (H.out.go hb)
    clear hb
    go_wp2_with (first
        | go_skip
        | ((with_reducible refine isLoad ?_); refine ldA (hT := rWks) H ?_)
        | ((with_reducible refine isAlloc ?_); refine alA (hz := zWks) H ?_; clear H; intro _ _ H)
        | ((with_reducible refine isStore ?_); refine stA (hT := rWks) H ?_; clear H; intro _ H)
        | ((with_reducible refine isLoad ?_); refine ldA H ?_)
        | ((with_reducible refine isLoad ?_); refine ld1A H ?_)
        | ((with_reducible refine isStore ?_); refine stA H ?_; clear H; intro _ H)
        | ((with_reducible refine isStore ?_); refine st1A H ?_; clear H; intro _ H)
        | ((with_reducible refine isBox ?_); refine bxA H ?_; clear H; intro _ _ H)
        | ((with_reducible refine isAlloc ?_); refine alA H ?_; clear H; intro _ _ H))
    refine wp_region_E H (by kernel_rfl) (by kernel_rfl) ?_
    repeat (first
        | ((with_reducible refine kLoad ?_); refine kld1A (hT := kParts) H ?_)
        | ((with_reducible refine kLoad ?_); refine kld1A (hT := kSlots) H ?_)
        | (refine kskA ?_)
        | ((with_reducible refine kLoad ?_); refine kldA H ?_)
        | ((with_reducible refine kLoad ?_); refine kld1A H ?_)
        | ((fail_if_success (with_reducible refine kCall ?_)); (with_reducible refine kCons ?_); refine wpK_step (fun K hK => ?_); go_simp; refine hK _ ?_; clear hK K))
    try (refine wpK_step (fun K hK => ?_); go_simp; refine hK _ ?_; clear hK K)
    repeat (first
        | ((with_reducible refine kLoad ?_); refine kld1A (hT := kParts) H ?_)
        | ((with_reducible refine kLoad ?_); refine kld1A (hT := kSlots) H ?_)
        | (refine kskA ?_)
        | ((with_reducible refine kLoad ?_); refine kldA H ?_)
        | ((with_reducible refine kLoad ?_); refine kld1A H ?_)
        | ((fail_if_success (with_reducible refine kCall ?_)); (with_reducible refine kCons ?_); refine wpK_step (fun K hK => ?_); go_simp; refine hK _ ?_; clear hK K))
    refine wpK_step (fun K hK => ?_)
    go_simp
    apply Exists.intro
    refine ⟨fun sx => ?_, hK _ ?_⟩
    · go_at_call 8
      exact belowQ_any i ps.length m1 _ (by omega) hi.1 hi.2 (by omega) E1
    clear hK K
    repeat (first
        | ((with_reducible refine kLoad ?_); refine kld1A (hT := kParts) H ?_)
        | ((with_reducible refine kLoad ?_); refine kld1A (hT := kSlots) H ?_)
        | (refine kskA ?_)
        | ((with_reducible refine kLoad ?_); refine kldA H ?_)
        | ((with_reducible refine kLoad ?_); refine kld1A H ?_)
        | ((fail_if_success (with_reducible refine kCall ?_)); (with_reducible refine kCons ?_); refine wpK_step (fun K hK => ?_); go_simp; refine hK _ ?_; clear hK K))
    try (refine wpK_step (fun K hK => ?_); go_simp; refine hK _ ?_; clear hK K)
    repeat (first
        | ((with_reducible refine kLoad ?_); refine kld1A (hT := kParts) H ?_)
        | ((with_reducible refine kLoad ?_); refine kld1A (hT := kSlots) H ?_)
        | (refine kskA ?_)
        | ((with_reducible refine kLoad ?_); refine kldA H ?_)
        | ((with_reducible refine kLoad ?_); refine kld1A H ?_)
        | ((fail_if_success (with_reducible refine kCall ?_)); (with_reducible refine kCons ?_); refine wpK_step (fun K hK => ?_); go_simp; refine hK _ ?_; clear hK K))
    refine wpK_step (fun K hK => ?_)
    go_simp
    apply Exists.intro
    refine ⟨fun sx => ?_, hK _ ?_⟩
    · go_at_call 8
      exact belowQ_any k ps.length m2 _ (by omega) hk.1 hk.2 (by omega) E2
    clear hK K
    repeat (first
        | ((with_reducible refine kLoad ?_); refine kld1A (hT := kParts) H ?_)
        | ((with_reducible refine kLoad ?_); refine kld1A (hT := kSlots) H ?_)
        | (refine kskA ?_)
        | ((with_reducible refine kLoad ?_); refine kldA H ?_)
        | ((with_reducible refine kLoad ?_); refine kld1A H ?_)
        | ((fail_if_success (with_reducible refine kCall ?_)); (with_reducible refine kCons ?_); refine wpK_step (fun K hK => ?_); go_simp; refine hK _ ?_; clear hK K))
    try (refine wpK_step (fun K hK => ?_); go_simp; refine hK _ ?_; clear hK K)
    repeat (first
        | ((with_reducible refine kLoad ?_); refine kld1A (hT := kParts) H ?_)
        | ((with_reducible refine kLoad ?_); refine kld1A (hT := kSlots) H ?_)
        | (refine kskA ?_)
        | ((with_reducible refine kLoad ?_); refine kldA H ?_)
        | ((with_reducible refine kLoad ?_); refine kld1A H ?_)
        | ((fail_if_success (with_reducible refine kCall ?_)); (with_reducible refine kCons ?_); refine wpK_step (fun K hK => ?_); go_simp; refine hK _ ?_; clear hK K))
    refine wpK_step (fun K hK => ?_)
    go_simp
    apply Exists.intro
    refine ⟨fun sx => ?_, hK _ ?_⟩
    · go_at_call 8
      exact belowQ_any j ss.length m3 _ (by omega) hj.1 hj.2 (by omega) E3
    clear hK K
    repeat (first
        | ((with_reducible refine kLoad ?_); refine kld1A (hT := kParts) H ?_)
        | ((with_reducible refine kLoad ?_); refine kld1A (hT := kSlots) H ?_)
        | (refine kskA ?_)
        | ((with_reducible refine kLoad ?_); refine kldA H ?_)
        | ((with_reducible refine kLoad ?_); refine kld1A H ?_)
        | ((fail_if_success (with_reducible refine kCall ?_)); (with_reducible refine kCons ?_); refine wpK_step (fun K hK => ?_); go_simp; refine hK _ ?_; clear hK K))
    try (refine wpK_step (fun K hK => ?_); go_simp; refine hK _ ?_; clear hK K)
    repeat (first
        | ((with_reducible refine kLoad ?_); refine kld1A (hT := kParts) H ?_)
        | ((with_reducible refine kLoad ?_); refine kld1A (hT := kSlots) H ?_)
        | (refine kskA ?_)
        | ((with_reducible refine kLoad ?_); refine kldA H ?_)
        | ((with_reducible refine kLoad ?_); refine kld1A H ?_)
        | ((fail_if_success (with_reducible refine kCall ?_)); (with_reducible refine kCons ?_); refine wpK_step (fun K hK => ?_); go_simp; refine hK _ ?_; clear hK K))
    refine wpK_step (fun K hK => ?_)
    go_simp
    apply Exists.intro
    refine ⟨fun sx => ?_, hK _ ?_⟩
    · go_at_call 8
      exact belowQ_any l ss.length m4 _ (by omega) hl.1 hl.2 (by omega) E4
    clear hK K
    repeat (first
        | ((with_reducible refine kLoad ?_); refine kld1A (hT := kParts) H ?_)
        | ((with_reducible refine kLoad ?_); refine kld1A (hT := kSlots) H ?_)
        | (refine kskA ?_)
        | ((with_reducible refine kLoad ?_); refine kldA H ?_)
        | ((with_reducible refine kLoad ?_); refine kld1A H ?_)
        | ((fail_if_success (with_reducible refine kCall ?_)); (with_reducible refine kCons ?_); refine wpK_step (fun K hK => ?_); go_simp; refine hK _ ?_; clear hK K))
    refine wpKeep_nil ?_
    clear H
    intro _ H
    go_wp2_with (first
        | go_skip
        | ((with_reducible refine isLoad ?_); refine ldA (hT := rWks) H ?_)
        | ((with_reducible refine isAlloc ?_); refine alA (hz := zWks) H ?_; clear H; intro _ _ H)
        | ((with_reducible refine isStore ?_); refine stA (hT := rWks) H ?_; clear H; intro _ H)
        | ((with_reducible refine isLoad ?_); refine ldA H ?_)
        | ((with_reducible refine isLoad ?_); refine ld1A H ?_)
        | ((with_reducible refine isStore ?_); refine stA H ?_; clear H; intro _ H)
        | ((with_reducible refine isStore ?_); refine st1A H ?_; clear H; intro _ H)
        | ((with_reducible refine isBox ?_); refine bxA H ?_; clear H; intro _ _ H)
        | ((with_reducible refine isAlloc ?_); refine alA H ?_; clear H; intro _ _ H))
    refine (fitBoth_any _ ps ss ws p1 p2 s1 s2 m1 m3 m2 m4 _ (Lib.hid (W0.out.below H.out.bel)) G1 G3 G2 G4 (PK.out _ g1) (SK.out _ g3) (PK.out _ g2) (SK.out _ g4) (by omega) (by omega) H.out.tb).mono ?_
    rintro _ _ ⟨⟨r1, rfl, hr⟩, hb⟩
    have R1 := Lib.hid hr
    replace H := Lib.hid (H.out.go hb)
    clear hr hb
    go_wp2_with (first
        | go_skip
        | ((with_reducible refine isLoad ?_); refine ldA (hT := rWks) H ?_)
        | ((with_reducible refine isAlloc ?_); refine alA (hz := zWks) H ?_; clear H; intro _ _ H)
        | ((with_reducible refine isStore ?_); refine stA (hT := rWks) H ?_; clear H; intro _ H)
        | ((with_reducible refine isLoad ?_); refine ldA H ?_)
        | ((with_reducible refine isLoad ?_); refine ld1A H ?_)
        | ((with_reducible refine isStore ?_); refine stA H ?_; clear H; intro _ H)
        | ((with_reducible refine isStore ?_); refine st1A H ?_; clear H; intro _ H)
        | ((with_reducible refine isBox ?_); refine bxA H ?_; clear H; intro _ _ H)
        | ((with_reducible refine isAlloc ?_); refine alA H ?_; clear H; intro _ _ H))
    refine (fitBoth_any _ ps ss ws p2 p1 s2 s1 m2 m4 m1 m3 _ (Lib.hid (W0.out.below H.out.bel)) G2 G4 G1 G3 (PK.out _ g2) (SK.out _ g4) (PK.out _ g1) (SK.out _ g3) (by omega) (by omega) H.out.tb).mono ?_
    rintro _ _ ⟨⟨r2, rfl, hr⟩, hb⟩
    have R2 := Lib.hid hr
    replace H := Lib.hid (H.out.go hb)
    clear hr hb
    go_wp2_with (first
        | go_skip
        | ((with_reducible refine isLoad ?_); refine ldA (hT := rWks) H ?_)
        | ((with_reducible refine isAlloc ?_); refine alA (hz := zWks) H ?_; clear H; intro _ _ H)
        | ((with_reducible refine isStore ?_); refine stA (hT := rWks) H ?_; clear H; intro _ H)
        | ((with_reducible refine isLoad ?_); refine ldA H ?_)
        | ((with_reducible refine isLoad ?_); refine ld1A H ?_)
        | ((with_reducible refine isStore ?_); refine stA H ?_; clear H; intro _ H)
        | ((with_reducible refine isStore ?_); refine st1A H ?_; clear H; intro _ H)
        | ((with_reducible refine isBox ?_); refine bxA H ?_; clear H; intro _ _ H)
        | ((with_reducible refine isAlloc ?_); refine alA H ?_; clear H; intro _ _ H))
    refine (fitBoth_any _ ps ss ws p1 p1 s1 s1 m1 m3 m1 m3 _ (Lib.hid (W0.out.below H.out.bel)) G1 G3 G1 G3 (PK.out _ g1) (SK.out _ g3) (PK.out _ g1) (SK.out _ g3) (by omega) (by omega) H.out.tb).mono ?_
    rintro _ _ ⟨⟨r3, rfl, hr⟩, hb⟩
    have R3 := Lib.hid hr
    replace H := Lib.hid (H.out.go hb)
    clear hr hb
    have e2 : r2 = r1 := Bool.eq_iff_iff.2 ⟨fun h => R1.out.2 (R2.out.1 h).symm, fun h => R2.out.2 (R1.out.1 h).symm⟩
    have e3 : r3 = false := Bool.eq_false_iff.2 fun h => by rcases R3.out.1 h with h4 | h4 <;> exact FitT.not_bey_self h4
    subst e2
    subst e3
    clear R1 R2 R3
    go_wp2_with (first
        | go_skip
        | ((with_reducible refine isLoad ?_); refine ldA (hT := rWks) H ?_)
        | ((with_reducible refine isAlloc ?_); refine alA (hz := zWks) H ?_; clear H; intro _ _ H)
        | ((with_reducible refine isStore ?_); refine stA (hT := rWks) H ?_; clear H; intro _ H)
        | ((with_reducible refine isLoad ?_); refine ldA H ?_)
        | ((with_reducible refine isLoad ?_); refine ld1A H ?_)
        | ((with_reducible refine isStore ?_); refine stA H ?_; clear H; intro _ H)
        | ((with_reducible refine isStore ?_); refine st1A H ?_; clear H; intro _ H)
        | ((with_reducible refine isBox ?_); refine bxA H ?_; clear H; intro _ _ H)
        | ((with_reducible refine isAlloc ?_); refine alA H ?_; clear H; intro _ _ H))
    cases r2 <;> (go_wp2_with fail) <;> go_ret <;> exact ⟨rfl, (H0.out.join H.out).bel⟩
  · have dne : decide (0 < ps.length ∧ 0 < ss.length) = false := decide_eq_false hne
    rw [dne]
    clear dne
    go_wp2_with (first
        | go_skip
        | ((with_reducible refine isLoad ?_); refine ldA (hT := rWks) H ?_)
        | ((with_reducible refine isAlloc ?_); refine alA (hz := zWks) H ?_; clear H; intro _ _ H)
        | ((with_reducible refine isStore ?_); refine stA (hT := rWks) H ?_; clear H; intro _ H)
        | ((with_reducible refine isLoad ?_); refine ldA H ?_)
        | ((with_reducible refine isLoad ?_); refine ld1A H ?_)
        | ((with_reducible refine isStore ?_); refine stA H ?_; clear H; intro _ H)
        | ((with_reducible refine isStore ?_); refine st1A H ?_; clear H; intro _ H)
        | ((with_reducible refine isBox ?_); refine bxA H ?_; clear H; intro _ _ H)
        | ((with_reducible refine isAlloc ?_); refine alA H ?_; clear H; intro _ _ H))
    refine (fitted_any _ H.out.tb).mono ?_
    rintro _ _ ⟨rfl, hb⟩
    replace H := Lib.hid (H.out.go hb)
    clear hb
    go_wp2_with (first
        | go_skip
        | ((with_reducible refine isLoad ?_); refine ldA (hT := rWks) H ?_)
        | ((with_reducible refine isAlloc ?_); refine alA (hz := zWks) H ?_; clear H; intro _ _ H)
        | ((with_reducible refine isStore ?_); refine stA (hT := rWks) H ?_; clear H; intro _ H)
        | ((with_reducible refine isLoad ?_); refine ldA H ?_)
        | ((with_reducible refine isLoad ?_); refine ld1A H ?_)
        | ((with_reducible refine isStore ?_); refine stA H ?_; clear H; intro _ H)
        | ((with_reducible refine isStore ?_); refine st1A H ?_; clear H; intro _ H)
        | ((with_reducible refine isBox ?_); refine bxA H ?_; clear H; intro _ _ H)
        | ((with_reducible refine isAlloc ?_); refine alA H ?_; clear H; intro _ _ H))
    refine (fitted_any _ H.out.tb).mono ?_
    rintro _ _ ⟨rfl, hb⟩
    replace H := Lib.hid (H.out.go hb)
    clear hb
    go_wp2_with (first
        | go_skip
        | ((with_reducible refine isLoad ?_); refine ldA (hT := rWks) H ?_)
        | ((with_reducible refine isAlloc ?_); refine alA (hz := zWks) H ?_; clear H; intro _ _ H)
        | ((with_reducible refine isStore ?_); refine stA (hT := rWks) H ?_; clear H; intro _ H)
        | ((with_reducible refine isLoad ?_); refine ldA H ?_)
        | ((with_reducible refine isLoad ?_); refine ld1A H ?_)
        | ((with_reducible refine isStore ?_); refine stA H ?_; clear H; intro _ H)
        | ((with_reducible refine isStore ?_); refine st1A H ?_; clear H; intro _ H)
        | ((with_reducible refine isBox ?_); refine bxA H ?_; clear H; intro _ _ H)
        | ((with_reducible refine isAlloc ?_); refine alA H ?_; clear H; intro _ _ H))
    go_ret
    exact ⟨rfl, (H0.out.join H.out).bel⟩
theorem fitBoth_core_bd {a : Int} (h : (Lit.int .i64 a).wf = true) : -9223372036854775808 ≤ a ∧ a ≤ 9223372036854775807 := by
  simpa [Lit.wf, IntKind.min, IntKind.max, IntKind.signed, IntKind.bits] using h
theorem fitBoth_core (S : Sd) (i k j l : Int) (hi : -9223372036854775808 ≤ i) (hi2 : i ≤ 9223372036854775807) (hk : -9223372036854775808 ≤ k) (hk2 : k ≤ 9223372036854775807) (hj : -9223372036854775808 ≤ j) (hj2 : j ≤ 9223372036854775807) (hl : -9223372036854775808 ≤ l) (hl2 : l ≤ 9223372036854775807) (w : World) (hS : S.ok w) (hT : Tb w) :
    Calls Tryz.prog 3 #[.slice S.A S.xs.length S.c, .int .i64 i, .int .i64 k, .int .i64 j, .int .i64 l] w fun e w' => e = .returned (.bool true) ∧ Go.RowKit.Below w.heap.size w w' :=
  (both_core S i k j l w (Lib.hid hS) ⟨hi, hi2⟩ ⟨hk, hk2⟩ ⟨hj, hj2⟩ ⟨hl, hl2⟩ hT).mono fun _ _ h => ⟨h.1, h.2.os, h.2.tape, h.2.output, h.2.size, h.2.block⟩
end Go.Proofs.YtmfejdikfpckdaaGreatDoor
