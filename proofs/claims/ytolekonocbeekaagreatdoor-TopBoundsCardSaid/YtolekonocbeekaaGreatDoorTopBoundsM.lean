/- ganttop.TopBounds, the walk. Printed by gen/topb.py. -/
import Derived.Test.YtolekonocbeekaaGreatDoorMk17
namespace Go.Proofs.YtolekonocbeekaaGreatDoor
open Go.RowKit
set_option linter.unusedVariables false
set_option maxRecDepth 100000

theorem self_btw {x e : Rat} (h : 0 ≤ e) : x - e ≤ x ∧ x ≤ x + e := by grind
set_option maxHeartbeats 32000000 in
theorem topBounds_core (S1 : Sd) (S2 : Sd) (S3 : Sd) (S4 : Sd) (b : Int) (hb1 : -9223372036854775808 ≤ b) (hb2 : b ≤ 9223372036854775807) (w : World) (hS1 : S1.ok w) (hS2 : S2.ok w) (hS3 : S3.ok w) (hS4 : S4.ok w) (hT : Tb w) :
    Calls Tryz.prog 3 #[.slice S1.A S1.xs.length S1.c, .slice S2.A S2.xs.length S2.c, .slice S3.A S3.xs.length S3.c, .slice S4.A S4.xs.length S4.c, .int .i64 b] w fun e w' => e = .returned (.bool true) ∧ Below w.heap.size w w' := by
  obtain ⟨a1, b1, a2, b2, a3, b3, P0, CP0⟩ := pose_ex S1 w hS1
  have CP := Lib.hid CP0
  clear CP0 hS1
  obtain ⟨fx0, fy0, ft0, X, Y, T, zx0, zy0, zt0, CF0⟩ := within_ex S2 w hS2 a1 b1 a2 b2 a3 b3 P0 (by decide)
  have CF := Lib.hid CF0
  clear CF0 hS2
  obtain ⟨x2, y2, t2, Zx20, Zy20, Zt20, CH0⟩ := frame_ex S3 w hS3
  have CH := Lib.hid CH0
  have Zx2 : Hid (Sz 1 x2) := Zx20
  have Zy2 : Hid (Sz 1 y2) := Zy20
  have Zt2 : Hid (Sz 1 t2) := Zt20
  have HS3 := Lib.hid hS3
  clear CH0 Zx20 Zy20 Zt20 hS3
  have HS4 := Lib.hid hS4
  have HS4n := Lib.hid hS4.next
  clear hS4
  have A1 : Hid (Spn 2 (some a1) (some b1) a1 b1) := (P0.pok (by decide)).s1
  have A2 : Hid (Spn 2 (some a2) (some b2) a2 b2) := (P0.pok (by decide)).s2
  have A3 : Hid (Spn 2 (some a3) (some b3) a3 b3) := (P0.pok (by decide)).s3
  have P : Hid (PoseF 14 a1 b1 a2 b2 a3 b3) := P0.mono (by decide)
  have TB0 : Hid (TBr (szA 0) (szB 0) a1 b1 a2 b2 a3 b3 fx0 fy0 ft0) := ⟨P.out.pok (by decide), X, Y, T, zx0, zy0, zt0⟩
  have Zfx0 : Hid (Sz 14 fx0) := zx0
  have Zfy0 : Hid (Sz 14 fy0) := zy0
  have Zft0 : Hid (Sz 14 ft0) := zt0
  have GP : Hid (hasF a1 b1 a2 b2 a3 b3 fx0 fy0 ft0 = true) := decide_eq_true ⟨X, Y, T⟩
  have IS : inF a1 b1 a2 b2 a3 b3 a1 b1 a2 b2 a3 b3 = true := decide_eq_true ⟨⟨Rat.le_refl, Rat.le_refl⟩, ⟨Rat.le_refl, Rat.le_refl⟩, ⟨Rat.le_refl, Rat.le_refl⟩⟩
  have I0 : Hid ((inF a1 b1 a2 b2 a3 b3 a1 b1 a2 b2 a3 b3 && inF a1 b1 a2 b2 a3 b3 a1 b1 a2 b2 a3 b3) = true) := by unfold Hid; rw [IS]; rfl
  have EZ : putP ⟨valO none, valO none, valO none⟩ (gripP ⟨valO none, valO none, valO none⟩ (⟨a1, b1, a2, b2, a3, b3⟩ : Ps)) = (⟨a1, b1, a2, b2, a3, b3⟩ : Ps) := carry_zero P0.l1 P0.l2
  have Da1 : Hid ((putP ⟨valO none, valO none, valO none⟩ (gripP ⟨valO none, valO none, valO none⟩ (⟨a1, b1, a2, b2, a3, b3⟩ : Ps))).a1 = a1) := congrArg Ps.a1 EZ
  have Db1 : Hid ((putP ⟨valO none, valO none, valO none⟩ (gripP ⟨valO none, valO none, valO none⟩ (⟨a1, b1, a2, b2, a3, b3⟩ : Ps))).b1 = b1) := congrArg Ps.b1 EZ
  have Da2 : Hid ((putP ⟨valO none, valO none, valO none⟩ (gripP ⟨valO none, valO none, valO none⟩ (⟨a1, b1, a2, b2, a3, b3⟩ : Ps))).a2 = a2) := congrArg Ps.a2 EZ
  have Db2 : Hid ((putP ⟨valO none, valO none, valO none⟩ (gripP ⟨valO none, valO none, valO none⟩ (⟨a1, b1, a2, b2, a3, b3⟩ : Ps))).b2 = b2) := congrArg Ps.b2 EZ
  have Da3 : Hid ((putP ⟨valO none, valO none, valO none⟩ (gripP ⟨valO none, valO none, valO none⟩ (⟨a1, b1, a2, b2, a3, b3⟩ : Ps))).a3 = a3) := congrArg Ps.a3 EZ
  have Db3 : Hid ((putP ⟨valO none, valO none, valO none⟩ (gripP ⟨valO none, valO none, valO none⟩ (⟨a1, b1, a2, b2, a3, b3⟩ : Ps))).b3 = b3) := congrArg Ps.b3 EZ
  have Zn : Hid (SzO 1 none) := Sz.zero
  have n0 : (-(valO none)) = 0 := by decide
  have G0a : Hid (tWide (-(valO none)) a3 b3 = false) := by unfold Hid; rw [n0]; exact tWide_zero _ _
  have G0b : Hid (tWide (valO none) (tvQ (-(valO none)) a3) (tvQ (-(valO none)) b3) = false) := tWide_zero _ _
  have n1 := mod_bd b (show (0 : Int) < 5 by decide)
  obtain ⟨m1, M1⟩ : ∃ z : Int, Hid (b % 5 = z) := ⟨_, rfl⟩
  rw [M1.out] at n1
  obtain ⟨N1a, N1b⟩ := n1
  obtain ⟨s, Es⟩ : ∃ z : Rat, Hid (ofQ m1 8 = z) := ⟨_, rfl⟩
  have Hs : Hid (0 ≤ s) := by rw [← Es.out]; exact ofQ_nn N1a (by decide)
  have Zs : Hid (Sz 1 s) := by rw [← Es.out]; exact ofQ_sz _ _ _ (by omega) (by decide) (by decide)
  have Ss : Hid (SmO (some s)) := Sz.o Zs (by decide)
  obtain ⟨e0, Ee0⟩ : ∃ z : Rat, Hid (((0 : Int) : Rat) = z) := ⟨_, rfl⟩
  have H0 : Hid (0 ≤ e0) := by rw [← Ee0.out]; exact Rat.le_refl
  have Z0 : Hid (Sz 1 e0) := by rw [← Ee0.out]; exact Sz.zero
  have n3 := S4.nx_bd 3 (by decide)
  obtain ⟨N, hN⟩ : ∃ N : Nat, 1 + S4.nx 3 = (N : Int) := ⟨(1 + S4.nx 3).toNat, by omega⟩
  have hN3 : N ≤ 3 := by omega
  have hw : IntKind.i64.wrap (1 + S4.nx 3) = (N : Int) := by rw [hN]; exact IntWalk.i64_in _ (by omega)
  clear P0 X Y T zx0 zy0 zt0 IS EZ n0 n3 hN
  have H := Lib.hid (Hp.start hT)
  clear hT
  go_enter Tryz.func3, Tryz.ntmps3
  go_wp2_with (first
      | go_skip
      | ((with_reducible refine isLoad ?_); refine ldA H ?_)
      | ((with_reducible refine isLoad ?_); refine ld1A H ?_)
      | ((with_reducible refine isStore ?_); refine stA H ?_; clear H; intro _ H)
      | ((with_reducible refine isStore ?_); refine st1A H ?_; clear H; intro _ H)
      | ((with_reducible refine isBox ?_); refine bxA H ?_; clear H; intro _ _ H)
      | ((with_reducible refine isAlloc ?_); refine alA H ?_; clear H; intro _ _ H))
  refine ((CP.out _ H.out.bel H.out.tb)).mono ?_
  rintro _ _ ⟨rfl, hb⟩
  replace H := Lib.hid (H.out.go hb)
  clear hb
  go_wp2_with (first
      | go_skip
      | ((with_reducible refine isLoad ?_); refine ldA H ?_)
      | ((with_reducible refine isLoad ?_); refine ld1A H ?_)
      | ((with_reducible refine isStore ?_); refine stA H ?_; clear H; intro _ H)
      | ((with_reducible refine isStore ?_); refine st1A H ?_; clear H; intro _ H)
      | ((with_reducible refine isBox ?_); refine bxA H ?_; clear H; intro _ _ H)
      | ((with_reducible refine isAlloc ?_); refine alA H ?_; clear H; intro _ _ H))
  refine ((CF.out _ H.out.bel H.out.tb)).mono ?_
  rintro _ _ ⟨rfl, hb⟩
  replace H := Lib.hid (H.out.go hb)
  clear hb
  go_wp2_with (first
      | go_skip
      | ((with_reducible refine isLoad ?_); refine ldA H ?_)
      | ((with_reducible refine isLoad ?_); refine ld1A H ?_)
      | ((with_reducible refine isStore ?_); refine stA H ?_; clear H; intro _ H)
      | ((with_reducible refine isStore ?_); refine st1A H ?_; clear H; intro _ H)
      | ((with_reducible refine isBox ?_); refine bxA H ?_; clear H; intro _ _ H)
      | ((with_reducible refine isAlloc ?_); refine alA H ?_; clear H; intro _ _ H))
  refine (belowQ_any b 5 m1 _ (by decide) hb1 hb2 (by decide) M1).mono ?_
  rintro _ _ ⟨rfl, hb⟩
  replace H := Lib.hid (H.out.go hb)
  clear hb
  go_wp2_with (first
      | go_skip
      | ((with_reducible refine isLoad ?_); refine ldA H ?_)
      | ((with_reducible refine isLoad ?_); refine ld1A H ?_)
      | ((with_reducible refine isStore ?_); refine stA H ?_; clear H; intro _ H)
      | ((with_reducible refine isStore ?_); refine st1A H ?_; clear H; intro _ H)
      | ((with_reducible refine isBox ?_); refine bxA H ?_; clear H; intro _ _ H)
      | ((with_reducible refine isAlloc ?_); refine alA H ?_; clear H; intro _ _ H))
  refine (ofQ_any m1 8 s _ (by omega) (by omega) (by decide) (by decide) Es).mono ?_
  rintro _ _ ⟨rfl, hb⟩
  replace H := Lib.hid (H.out.go hb)
  clear hb
  go_wp2_with (first
      | go_skip
      | ((with_reducible refine isLoad ?_); refine ldA H ?_)
      | ((with_reducible refine isLoad ?_); refine ld1A H ?_)
      | ((with_reducible refine isStore ?_); refine stA H ?_; clear H; intro _ H)
      | ((with_reducible refine isStore ?_); refine st1A H ?_; clear H; intro _ H)
      | ((with_reducible refine isBox ?_); refine bxA H ?_; clear H; intro _ _ H)
      | ((with_reducible refine isAlloc ?_); refine alA H ?_; clear H; intro _ _ H))
  refine (Carry_ok (i := 2) (j := 1) (k := 2) (some a1) (some b1) a1 b1 (some a2) (some b2) a2 b2 (some a3) (some b3) a3 b3 none none none none none none a3 b3 a1 b1 a2 b2 _ (by decide) A1 A2 A3 Zn Zn Zn Zn Zn Zn G0a G0b Da3 Db3 Da1 Db1 Da2 Db2 H.out.tb).mono ?_
  rintro _ _ ⟨rfl, hb⟩
  replace H := Lib.hid (H.out.go hb)
  clear hb
  go_wp2_with (first
      | go_skip
      | ((with_reducible refine isLoad ?_); refine ldA H ?_)
      | ((with_reducible refine isLoad ?_); refine ld1A H ?_)
      | ((with_reducible refine isStore ?_); refine stA H ?_; clear H; intro _ H)
      | ((with_reducible refine isStore ?_); refine st1A H ?_; clear H; intro _ H)
      | ((with_reducible refine isBox ?_); refine bxA H ?_; clear H; intro _ _ H)
      | ((with_reducible refine isAlloc ?_); refine alA H ?_; clear H; intro _ _ H))
  refine (SameF_any (k := 14) a1 b1 a2 b2 a3 b3 a1 b1 a2 b2 a3 b3 true _ (by decide) P.out P.out I0 H.out.tb).mono ?_
  rintro _ _ ⟨rfl, hb⟩
  replace H := Lib.hid (H.out.go hb)
  clear hb
  go_wp2_with (first
      | go_skip
      | ((with_reducible refine isLoad ?_); refine ldA H ?_)
      | ((with_reducible refine isLoad ?_); refine ld1A H ?_)
      | ((with_reducible refine isStore ?_); refine stA H ?_; clear H; intro _ H)
      | ((with_reducible refine isStore ?_); refine st1A H ?_; clear H; intro _ H)
      | ((with_reducible refine isBox ?_); refine bxA H ?_; clear H; intro _ _ H)
      | ((with_reducible refine isAlloc ?_); refine alA H ?_; clear H; intro _ _ H))
  refine (HasF_any (k := 14) a1 b1 a2 b2 a3 b3 fx0 fy0 ft0 true _ (by decide) P.out Zfx0.out Zfy0.out Zft0.out GP H.out.tb).mono ?_
  rintro _ _ ⟨rfl, hb⟩
  replace H := Lib.hid (H.out.go hb)
  clear hb
  go_wp2_with (first
      | go_skip
      | ((with_reducible refine isLoad ?_); refine ldA H ?_)
      | ((with_reducible refine isLoad ?_); refine ld1A H ?_)
      | ((with_reducible refine isStore ?_); refine stA H ?_; clear H; intro _ H)
      | ((with_reducible refine isStore ?_); refine st1A H ?_; clear H; intro _ H)
      | ((with_reducible refine isBox ?_); refine bxA H ?_; clear H; intro _ _ H)
      | ((with_reducible refine isAlloc ?_); refine alA H ?_; clear H; intro _ _ H))
  refine (nextH_any S4 _ 3 H HS4 (by unfold Hid; (repeat (first | apply Upd.head | apply Upd.tail | assumption))) (by decide) (by decide)).mono ?_
  rintro _ _ ⟨rfl, H2⟩
  replace H := Lib.hid H2
  clear H2
  go_wp2_with (first
      | go_skip
      | ((with_reducible refine isLoad ?_); refine ldA H ?_)
      | ((with_reducible refine isLoad ?_); refine ld1A H ?_)
      | ((with_reducible refine isStore ?_); refine stA H ?_; clear H; intro _ H)
      | ((with_reducible refine isStore ?_); refine st1A H ?_; clear H; intro _ H)
      | ((with_reducible refine isBox ?_); refine bxA H ?_; clear H; intro _ _ H)
      | ((with_reducible refine isAlloc ?_); refine alA H ?_; clear H; intro _ _ H))
  rename_i g1 V1 V2 V3 g2 V4 V5 V6 V7 g3 V8 V9 g4 V10 V11 g5 V12 V13 V14 V15 K7 hK7 V16
  go_loopw [60] (fun i_ wr => ∃ (j : Nat) (S0 : Sd) (p1 q1 p2 q2 p3 q3 fx fy ft : Rat), i_ = .int .i64 j ∧ j ≤ N ∧ Hid (S0.ok w) ∧ Hid (TBr (szA j) (szB j) p1 q1 p2 q2 p3 q3 fx fy ft) ∧ Hid (Hp w wr [(g5, 28, [.bool (sgO (some a1)), .string (nuO (some a1)), .string (deO (some a1)), .bool (sgO (some b1)), .string (nuO (some b1)), .string (deO (some b1)), .bool (sgO (some a2)), .string (nuO (some a2)), .string (deO (some a2)), .bool (sgO (some b2)), .string (nuO (some b2)), .string (deO (some b2)), .bool (sgO (some a3)), .string (nuO (some a3)), .string (deO (some a3)), .bool (sgO (some b3)), .string (nuO (some b3)), .string (deO (some b3))]), (g4, 41, [S0.v]), (g3, 24, [.bool (sgO (some s)), .string (nuO (some s)), .string (deO (some s))]), (g2, 35, [.bool (sgO (some fx)), .string (nuO (some fx)), .string (deO (some fx)), .bool (sgO (some fy)), .string (nuO (some fy)), .string (deO (some fy)), .bool false, .bool (sgO (some ft)), .string (nuO (some ft)), .string (deO (some ft))]), (g1, 28, [.bool (sgO (some p1)), .string (nuO (some p1)), .string (deO (some p1)), .bool (sgO (some q1)), .string (nuO (some q1)), .string (deO (some q1)), .bool (sgO (some p2)), .string (nuO (some p2)), .string (deO (some p2)), .bool (sgO (some q2)), .string (nuO (some q2)), .string (deO (some q2)), .bool (sgO (some p3)), .string (nuO (some p3)), .string (deO (some p3)), .bool (sgO (some q3)), .string (nuO (some q3)), .string (deO (some q3))])])) (fun i_ _ => N - (intOf i_).toNat)
  case atStart => exact ⟨0, S4.sn, a1, b1, a2, b2, a3, b3, fx0, fy0, ft0, rfl, by omega, HS4n, TB0, H⟩
  case round =>
    clear H
    obtain ⟨j, S0, p1, q1, p2, q2, p3, q3, fx, fy, ft, rfl, hj, HS0, R, H⟩ := hrel
    by_cases hlt : j < N
    · have hj2 : j ≤ 2 := by omega
      obtain ⟨A, hA⟩ : ∃ A, szA j = A := ⟨_, rfl⟩
      obtain ⟨B, hB⟩ : ∃ B, szB j = B := ⟨_, rfl⟩
      have hA1 : A ≤ 1009 := hA ▸ szA_le hj2
      have hB1 : B ≤ 349 := hB ▸ szB_le hj2
      have hA2 : szA (j + 1) = 4 * A + 157 := by rw [← hA]; rfl
      have hB2 : szB (j + 1) = 4 * B + 25 := by rw [← hB]; rfl
      have RR := R.out
      rw [hA, hB] at RR
      obtain ⟨x, y, t, Zx0, Zy0, Zt0, CG0⟩ := frame_ex S0 w HS0.out
      have CG := Lib.hid CG0
      have Zx : Hid (Sz 1 x) := Zx0
      have Zy : Hid (Sz 1 y) := Zy0
      have Zt : Hid (Sz 1 t) := Zt0
      have HS1 := Lib.hid HS0.out.next
      have HS2 := Lib.hid HS0.out.s2
      have HS3_ := Lib.hid HS0.out.s2.next
      have n1 := S0.sn.nx_bd 17 (by decide)
      have n2 := S0.s2.nx_bd 17 (by decide)
      have hw1 : IntKind.i64.wrap (S0.sn.nx 17 - 8) = S0.sn.nx 17 - 8 := IntWalk.i64_in _ (by omega)
      have hw2 : IntKind.i64.wrap (S0.s2.nx 17 - 8) = S0.s2.nx 17 - 8 := IntWalk.i64_in _ (by omega)
      have B1 : Hid (Spn A (some p1) (some q1) p1 q1) := RR.pk.s1
      have B2 : Hid (Spn A (some p2) (some q2) p2 q2) := RR.pk.s2
      have B3 : Hid (Spn B (some p3) (some q3) p3 q3) := RR.pk.s3
      have Zfx : Hid (Sz A fx) := RR.zx
      have Zfy : Hid (Sz A fy) := RR.zy
      have Zft : Hid (Sz B ft) := RR.zt
      clear CG0 Zx0 Zy0 Zt0 hA hB R
      cases G0 : tWide (-t) p3 q3 with
      | true =>
        have G : Hid (tWide (-(valO (some t))) p3 q3 = true) := G0
        clear G0 RR hA2 hB2
        go_wp2_with (first
            | go_skip
            | ((with_reducible refine isLoad ?_); refine ld1A H ?_ (hT := kSlc))
            | ((with_reducible refine isLoad ?_); refine ldA H ?_)
            | ((with_reducible refine isLoad ?_); refine ld1A H ?_)
            | ((with_reducible refine isStore ?_); refine stA H ?_; clear H; intro _ H)
            | ((with_reducible refine isStore ?_); refine st1A H ?_; clear H; intro _ H)
            | ((with_reducible refine isBox ?_); refine bxA H ?_; clear H; intro _ _ H)
            | ((with_reducible refine isAlloc ?_); refine alA H ?_; clear H; intro _ _ H))
        refine ((CG.out _ H.out.bel H.out.tb)).mono ?_
        rintro _ _ ⟨rfl, hb⟩
        replace H := Lib.hid (H.out.go hb)
        clear hb
        go_wp2_with (first
            | go_skip
            | ((with_reducible refine isLoad ?_); refine ld1A H ?_ (hT := kSlc))
            | ((with_reducible refine isLoad ?_); refine ldA H ?_)
            | ((with_reducible refine isLoad ?_); refine ld1A H ?_)
            | ((with_reducible refine isStore ?_); refine stA H ?_; clear H; intro _ H)
            | ((with_reducible refine isStore ?_); refine st1A H ?_; clear H; intro _ H)
            | ((with_reducible refine isBox ?_); refine bxA H ?_; clear H; intro _ _ H)
            | ((with_reducible refine isAlloc ?_); refine alA H ?_; clear H; intro _ _ H))
        refine ((CH.out _ H.out.bel H.out.tb)).mono ?_
        rintro _ _ ⟨rfl, hb⟩
        replace H := Lib.hid (H.out.go hb)
        clear hb
        go_wp2_with (first
            | go_skip
            | ((with_reducible refine isLoad ?_); refine ld1A H ?_ (hT := kSlc))
            | ((with_reducible refine isLoad ?_); refine ldA H ?_)
            | ((with_reducible refine isLoad ?_); refine ld1A H ?_)
            | ((with_reducible refine isStore ?_); refine stA H ?_; clear H; intro _ H)
            | ((with_reducible refine isStore ?_); refine st1A H ?_; clear H; intro _ H)
            | ((with_reducible refine isBox ?_); refine bxA H ?_; clear H; intro _ _ H)
            | ((with_reducible refine isAlloc ?_); refine alA H ?_; clear H; intro _ _ H))
        refine (nextH_any S0 _ 2 H HS0 (by unfold Hid; (repeat (first | apply Upd.head | apply Upd.tail | assumption))) (by decide) (by decide)).mono ?_
        rintro _ _ ⟨rfl, H2⟩
        replace H := Lib.hid H2
        clear H2
        go_wp2_with (first
            | go_skip
            | ((with_reducible refine isLoad ?_); refine ld1A H ?_ (hT := kSlc))
            | ((with_reducible refine isLoad ?_); refine ldA H ?_)
            | ((with_reducible refine isLoad ?_); refine ld1A H ?_)
            | ((with_reducible refine isStore ?_); refine stA H ?_; clear H; intro _ H)
            | ((with_reducible refine isStore ?_); refine st1A H ?_; clear H; intro _ H)
            | ((with_reducible refine isBox ?_); refine bxA H ?_; clear H; intro _ _ H)
            | ((with_reducible refine isAlloc ?_); refine alA H ?_; clear H; intro _ _ H))
        refine wp_region_R 4 13 [.a, .r (.agg #[.bool (sgO (some s)), .string (nuO (some s)), .string (deO (some s))]), .r (.agg #[.bool (sgO (some e0)), .string (nuO (some e0)), .string (deO (some e0))]), .q, .p, .p, .p, .a, .s] H (by kernel_rfl) (by kernel_rfl) (by kernel_rfl) (by decide) ?_
        simp only [List.take_succ_cons, List.take_zero, List.drop_succ_cons, List.drop_zero]
        repeat (first
            | (refine kskA ?_)
            | ((with_reducible refine kLoad ?_); refine kldA H ?_)
            | ((with_reducible refine kLoad ?_); refine kld1A H ?_)
            | ((fail_if_success (with_reducible refine kCall ?_)); (with_reducible refine kCons ?_); refine wpK_step (fun K hK => ?_); go_simp; refine hK _ ?_; clear hK K))
        refine wpKeep_nil ?_
        refine wpR_V 50 ([.bool (sgO (some x)), .string (nuO (some x)), .string (deO (some x)), .bool (sgO (some y)), .string (nuO (some y)), .string (deO (some y)), .bool false, .bool (sgO (some t)), .string (nuO (some t)), .string (deO (some t)), .bool (sgO (some x2)), .string (nuO (some x2)), .string (deO (some x2)), .bool (sgO (some y2)), .string (nuO (some y2)), .string (deO (some y2)), .bool false, .bool (sgO (some t2)), .string (nuO (some t2)), .string (deO (some t2))]) 1 (by rfl) rfl (by intro W; kernel_rfl) ?_
        intro _
        (simp only [Act.put, List.setIfInBounds_toArray, List.set_cons_succ, List.set_cons_zero])
        refine wpR_rload H (by rfl) rfl (by (first | exact wanted_none rfl | exact wanted_some rfl rfl)) (by (first | exact rRat | exact rSpan | exact rPose | exact rFrame | exact rVec | exact rTurn | exact rBox)) (by rfl) (by (repeat (first | exact List.Mem.head _ | refine List.Mem.tail _ ?_ | assumption))) (by rfl) (by rfl) ?_
        (simp only [Act.put, List.setIfInBounds_toArray, List.set_cons_succ, List.set_cons_zero])
        apply wpR_r (by rfl) (by (first | exact wanted_none rfl | exact wanted_some rfl rfl))
        · intro sx
          unfold keepsAt
          go_simp
          go_at_call 14
          exact ROf_any 0 e0 _ (by decide) (by decide) Ee0 (H.out.tbx sx)
        (simp only [Act.put, List.setIfInBounds_toArray, List.set_cons_succ, List.set_cons_zero])
        apply wpR_C (by rfl) (by (first | exact wanted_none rfl | exact wanted_some rfl rfl))
        · intro W hW
          unfold keepsAt
          go_simp
          go_at_call 13
          exact Drift_wide1 (i := A) (j := 1) (k := B) p1 q1 p2 q2 p3 q3 (some x) (some y) (some t) (some x2) (some y2) (some t2) s e0 _ _ (by omega) B1 B2 B3 Zx Zy Zt Zx2 Zy2 Zt2 Zs Hs Z0 H0 (hW.out.get (by (repeat (first | exact List.Mem.head _ | refine List.Mem.tail _ ?_ | assumption)))) G hW.out.tb
        (simp only [Act.put, List.setIfInBounds_toArray, List.set_cons_succ, List.set_cons_zero])
        refine wpR_P (by rfl) (by (first | exact wanted_none rfl | exact wanted_some rfl rfl)) (by intro W; first | (go_simp; rfl) | go_simp) ?_
        (simp only [Act.put, List.setIfInBounds_toArray, List.set_cons_succ, List.set_cons_zero])
        refine wpR_P (by rfl) (by (first | exact wanted_none rfl | exact wanted_some rfl rfl)) (by intro W; first | (go_simp; rfl) | go_simp) ?_
        (simp only [Act.put, List.setIfInBounds_toArray, List.set_cons_succ, List.set_cons_zero])
        refine wpR_P (by rfl) (by (first | exact wanted_none rfl | exact wanted_some rfl rfl)) (by intro W; first | (go_simp; rfl) | go_simp) ?_
        (simp only [Act.put, List.setIfInBounds_toArray, List.set_cons_succ, List.set_cons_zero])
        refine wpR_A (by rfl) (by simp [Allocs, go_sem]; intro _ _; rfl) ?_
        intro _
        (simp only [Act.put, List.setIfInBounds_toArray, List.set_cons_succ, List.set_cons_zero])
        refine wpR_S (by rfl) rfl rfl rfl (by (first | exact rRat | exact rSpan | exact rPose | exact rFrame | exact rVec | exact rTurn | exact rBox)) (by rfl) (by rfl) (by (repeat (first | apply Upd.head | apply Upd.tail | assumption))) (by rfl) (by (simp only [List.drop, List.take, List.nil_append, List.cons_append]); rfl) (by exact Nat.le_of_ble_eq_true rfl) (by rfl) ?_
        refine wpR_nil ?_
        clear H
        intro _ H
        go_wp2_with (first
            | go_skip
            | ((with_reducible refine isLoad ?_); refine ld1A H ?_ (hT := kSlc))
            | ((with_reducible refine isLoad ?_); refine ldA H ?_)
            | ((with_reducible refine isLoad ?_); refine ld1A H ?_)
            | ((with_reducible refine isStore ?_); refine stA H ?_; clear H; intro _ H)
            | ((with_reducible refine isStore ?_); refine st1A H ?_; clear H; intro _ H)
            | ((with_reducible refine isBox ?_); refine bxA H ?_; clear H; intro _ _ H)
            | ((with_reducible refine isAlloc ?_); refine alA H ?_; clear H; intro _ _ H))
        go_ret
        exact ⟨rfl, H.out.bel⟩
      | false =>
        cases G20 : tWide t2 (tvQ (-t) p3) (tvQ (-t) q3) with
        | true =>
          have G21 : tWide t2 (tvQ (-t) p3 - e0) (tvQ (-t) q3 + e0) = true := by rw [← Ee0.out, zero_sub_, zero_add_]; exact G20
          have G4 : Hid (tWide (valO (some t2)) (tvQ (-(valO (some t))) p3 - e0) (tvQ (-(valO (some t))) q3 + e0) = true) := G21
          clear G20 G21
          have G : Hid (tWide (-(valO (some t))) p3 q3 = false) := G0
          clear G0 RR hA2 hB2
          go_wp2_with (first
              | go_skip
              | ((with_reducible refine isLoad ?_); refine ld1A H ?_ (hT := kSlc))
              | ((with_reducible refine isLoad ?_); refine ldA H ?_)
              | ((with_reducible refine isLoad ?_); refine ld1A H ?_)
              | ((with_reducible refine isStore ?_); refine stA H ?_; clear H; intro _ H)
              | ((with_reducible refine isStore ?_); refine st1A H ?_; clear H; intro _ H)
              | ((with_reducible refine isBox ?_); refine bxA H ?_; clear H; intro _ _ H)
              | ((with_reducible refine isAlloc ?_); refine alA H ?_; clear H; intro _ _ H))
          refine ((CG.out _ H.out.bel H.out.tb)).mono ?_
          rintro _ _ ⟨rfl, hb⟩
          replace H := Lib.hid (H.out.go hb)
          clear hb
          go_wp2_with (first
              | go_skip
              | ((with_reducible refine isLoad ?_); refine ld1A H ?_ (hT := kSlc))
              | ((with_reducible refine isLoad ?_); refine ldA H ?_)
              | ((with_reducible refine isLoad ?_); refine ld1A H ?_)
              | ((with_reducible refine isStore ?_); refine stA H ?_; clear H; intro _ H)
              | ((with_reducible refine isStore ?_); refine st1A H ?_; clear H; intro _ H)
              | ((with_reducible refine isBox ?_); refine bxA H ?_; clear H; intro _ _ H)
              | ((with_reducible refine isAlloc ?_); refine alA H ?_; clear H; intro _ _ H))
          refine ((CH.out _ H.out.bel H.out.tb)).mono ?_
          rintro _ _ ⟨rfl, hb⟩
          replace H := Lib.hid (H.out.go hb)
          clear hb
          go_wp2_with (first
              | go_skip
              | ((with_reducible refine isLoad ?_); refine ld1A H ?_ (hT := kSlc))
              | ((with_reducible refine isLoad ?_); refine ldA H ?_)
              | ((with_reducible refine isLoad ?_); refine ld1A H ?_)
              | ((with_reducible refine isStore ?_); refine stA H ?_; clear H; intro _ H)
              | ((with_reducible refine isStore ?_); refine st1A H ?_; clear H; intro _ H)
              | ((with_reducible refine isBox ?_); refine bxA H ?_; clear H; intro _ _ H)
              | ((with_reducible refine isAlloc ?_); refine alA H ?_; clear H; intro _ _ H))
          refine (nextH_any S0 _ 2 H HS0 (by unfold Hid; (repeat (first | apply Upd.head | apply Upd.tail | assumption))) (by decide) (by decide)).mono ?_
          rintro _ _ ⟨rfl, H2⟩
          replace H := Lib.hid H2
          clear H2
          go_wp2_with (first
              | go_skip
              | ((with_reducible refine isLoad ?_); refine ld1A H ?_ (hT := kSlc))
              | ((with_reducible refine isLoad ?_); refine ldA H ?_)
              | ((with_reducible refine isLoad ?_); refine ld1A H ?_)
              | ((with_reducible refine isStore ?_); refine stA H ?_; clear H; intro _ H)
              | ((with_reducible refine isStore ?_); refine st1A H ?_; clear H; intro _ H)
              | ((with_reducible refine isBox ?_); refine bxA H ?_; clear H; intro _ _ H)
              | ((with_reducible refine isAlloc ?_); refine alA H ?_; clear H; intro _ _ H))
          refine wp_region_R 4 13 [.a, .r (.agg #[.bool (sgO (some s)), .string (nuO (some s)), .string (deO (some s))]), .r (.agg #[.bool (sgO (some e0)), .string (nuO (some e0)), .string (deO (some e0))]), .q, .p, .p, .p, .a, .s] H (by kernel_rfl) (by kernel_rfl) (by kernel_rfl) (by decide) ?_
          simp only [List.take_succ_cons, List.take_zero, List.drop_succ_cons, List.drop_zero]
          repeat (first
              | (refine kskA ?_)
              | ((with_reducible refine kLoad ?_); refine kldA H ?_)
              | ((with_reducible refine kLoad ?_); refine kld1A H ?_)
              | ((fail_if_success (with_reducible refine kCall ?_)); (with_reducible refine kCons ?_); refine wpK_step (fun K hK => ?_); go_simp; refine hK _ ?_; clear hK K))
          refine wpKeep_nil ?_
          refine wpR_V 50 ([.bool (sgO (some x)), .string (nuO (some x)), .string (deO (some x)), .bool (sgO (some y)), .string (nuO (some y)), .string (deO (some y)), .bool false, .bool (sgO (some t)), .string (nuO (some t)), .string (deO (some t)), .bool (sgO (some x2)), .string (nuO (some x2)), .string (deO (some x2)), .bool (sgO (some y2)), .string (nuO (some y2)), .string (deO (some y2)), .bool false, .bool (sgO (some t2)), .string (nuO (some t2)), .string (deO (some t2))]) 1 (by rfl) rfl (by intro W; kernel_rfl) ?_
          intro _
          (simp only [Act.put, List.setIfInBounds_toArray, List.set_cons_succ, List.set_cons_zero])
          refine wpR_rload H (by rfl) rfl (by (first | exact wanted_none rfl | exact wanted_some rfl rfl)) (by (first | exact rRat | exact rSpan | exact rPose | exact rFrame | exact rVec | exact rTurn | exact rBox)) (by rfl) (by (repeat (first | exact List.Mem.head _ | refine List.Mem.tail _ ?_ | assumption))) (by rfl) (by rfl) ?_
          (simp only [Act.put, List.setIfInBounds_toArray, List.set_cons_succ, List.set_cons_zero])
          apply wpR_r (by rfl) (by (first | exact wanted_none rfl | exact wanted_some rfl rfl))
          · intro sx
            unfold keepsAt
            go_simp
            go_at_call 14
            exact ROf_any 0 e0 _ (by decide) (by decide) Ee0 (H.out.tbx sx)
          (simp only [Act.put, List.setIfInBounds_toArray, List.set_cons_succ, List.set_cons_zero])
          apply wpR_C (by rfl) (by (first | exact wanted_none rfl | exact wanted_some rfl rfl))
          · intro W hW
            unfold keepsAt
            go_simp
            go_at_call 13
            exact Drift_wide2 (i := A) (j := 1) (k := B) p1 q1 p2 q2 p3 q3 (some x) (some y) (some t) (some x2) (some y2) (some t2) s e0 _ _ (by omega) B1 B2 B3 Zx Zy Zt Zx2 Zy2 Zt2 Zs Hs Z0 H0 (hW.out.get (by (repeat (first | exact List.Mem.head _ | refine List.Mem.tail _ ?_ | assumption)))) G G4 hW.out.tb
          (simp only [Act.put, List.setIfInBounds_toArray, List.set_cons_succ, List.set_cons_zero])
          refine wpR_P (by rfl) (by (first | exact wanted_none rfl | exact wanted_some rfl rfl)) (by intro W; first | (go_simp; rfl) | go_simp) ?_
          (simp only [Act.put, List.setIfInBounds_toArray, List.set_cons_succ, List.set_cons_zero])
          refine wpR_P (by rfl) (by (first | exact wanted_none rfl | exact wanted_some rfl rfl)) (by intro W; first | (go_simp; rfl) | go_simp) ?_
          (simp only [Act.put, List.setIfInBounds_toArray, List.set_cons_succ, List.set_cons_zero])
          refine wpR_P (by rfl) (by (first | exact wanted_none rfl | exact wanted_some rfl rfl)) (by intro W; first | (go_simp; rfl) | go_simp) ?_
          (simp only [Act.put, List.setIfInBounds_toArray, List.set_cons_succ, List.set_cons_zero])
          refine wpR_A (by rfl) (by simp [Allocs, go_sem]; intro _ _; rfl) ?_
          intro _
          (simp only [Act.put, List.setIfInBounds_toArray, List.set_cons_succ, List.set_cons_zero])
          refine wpR_S (by rfl) rfl rfl rfl (by (first | exact rRat | exact rSpan | exact rPose | exact rFrame | exact rVec | exact rTurn | exact rBox)) (by rfl) (by rfl) (by (repeat (first | apply Upd.head | apply Upd.tail | assumption))) (by rfl) (by (simp only [List.drop, List.take, List.nil_append, List.cons_append]); rfl) (by exact Nat.le_of_ble_eq_true rfl) (by rfl) ?_
          refine wpR_nil ?_
          clear H
          intro _ H
          go_wp2_with (first
              | go_skip
              | ((with_reducible refine isLoad ?_); refine ld1A H ?_ (hT := kSlc))
              | ((with_reducible refine isLoad ?_); refine ldA H ?_)
              | ((with_reducible refine isLoad ?_); refine ld1A H ?_)
              | ((with_reducible refine isStore ?_); refine stA H ?_; clear H; intro _ H)
              | ((with_reducible refine isStore ?_); refine st1A H ?_; clear H; intro _ H)
              | ((with_reducible refine isBox ?_); refine bxA H ?_; clear H; intro _ _ H)
              | ((with_reducible refine isAlloc ?_); refine alA H ?_; clear H; intro _ _ H))
          go_ret
          exact ⟨rfl, H.out.bel⟩
        | false =>
          have G21 : tWide t2 (tvQ (-t) p3 - e0) (tvQ (-t) q3 + e0) = false := by rw [← Ee0.out, zero_sub_, zero_add_]; exact G20
          have SL := fun dx dy => slip_law (g := (⟨x, y, t⟩ : Fr)) (h := (⟨x2, y2, t2⟩ : Fr)) (p := (⟨p1, q1, p2, q2, p3, q3⟩ : Ps)) (fx := fx) (fy := fy) (ft := ft) (dx := dx) (dy := dy) (s := s) RR.hx RR.hy RR.ht G0 G20
          obtain ⟨bx, Ebx⟩ : ∃ z : Rat, Hid (rotX (-(valO (some t))) (((0 : Int) : Rat) - valO (some x)) (((0 : Int) : Rat) - valO (some y)) = z) := ⟨_, rfl⟩
          obtain ⟨by_, Eby_⟩ : ∃ z : Rat, Hid (rotY (-(valO (some t))) (((0 : Int) : Rat) - valO (some x)) (((0 : Int) : Rat) - valO (some y)) = z) := ⟨_, rfl⟩
          obtain ⟨bt, Ebt⟩ : ∃ z : Rat, Hid (-(valO (some t)) = z) := ⟨_, rfl⟩
          have Zbx : Hid (Sz 35 bx) := szEq Ebx ((szrx Zt.neg ((Sz.int 0 (by decide)).sub Zx) ((Sz.int 0 (by decide)).sub Zy)).mono (by decide))
          have Zby_ : Hid (Sz 35 by_) := szEq Eby_ ((szry Zt.neg ((Sz.int 0 (by decide)).sub Zx) ((Sz.int 0 (by decide)).sub Zy)).mono (by decide))
          have Zbt : Hid (Sz 1 bt) := szEq Ebt (Sz.neg Zt)
          obtain ⟨rx, Erx⟩ : ∃ z : Rat, Hid (valO (some bx) + rotX (valO (some bt)) (valO (some fx)) (valO (some fy)) = z) := ⟨_, rfl⟩
          obtain ⟨ry, Ery⟩ : ∃ z : Rat, Hid (valO (some by_) + rotY (valO (some bt)) (valO (some fx)) (valO (some fy)) = z) := ⟨_, rfl⟩
          have Zrx : Hid (Sz (2 * A + 61) rx) := szEq Erx ((Sz.add Zbx (szrx Zbt Zfx Zfy)).mono (by omega))
          have Zry : Hid (Sz (2 * A + 61) ry) := szEq Ery ((Sz.add Zby_ (szry Zbt Zfx Zfy)).mono (by omega))
          have Frx : gripX ⟨x, y, t⟩ fx fy = rx := by rw [← Erx.out, ← Ebx.out, ← Ebt.out]; exact (back_rel x y t fx fy).1.symm
          have Fry : gripY ⟨x, y, t⟩ fx fy = ry := by rw [← Ery.out, ← Eby_.out, ← Ebt.out]; exact (back_rel x y t fx fy).2.symm
          have D0 : tdQ (-t) ft ≠ 0 := (tv_btw G0 RR.ht.1 RR.ht.2).1
          obtain ⟨rt, Ert⟩ : ∃ z : Rat, Hid ((valO (some bt) + valO (some ft)) / (((1 : Int) : Rat) - valO (some bt) * valO (some ft)) = z) := ⟨_, rfl⟩
          have Hd : Hid (((1 : Int) : Rat) - valO (some bt) * valO (some ft) ≠ 0) := by rw [← Ebt.out]; exact D0
          have Frt : tvQ (-t) ft = rt := by rw [← Ert.out, ← Ebt.out]; exact tv_comm _ _
          have Zrt : Hid (Sz (2 * B + 7) rt) := by rw [← Frt]; exact (tvQ_sz Zt.neg Zft D0).mono (by omega)
          obtain ⟨dx, Edx⟩ : ∃ z : Rat, Hid (ofQ (S0.sn.nx 17 - 8) 8 = z) := ⟨_, rfl⟩
          have Adx : -1 ≤ dx ∧ dx ≤ 1 := by rw [← Edx.out]; exact ofQ_abs8 (by omega) (by omega)
          have Zdx : Hid (Sz 1 dx) := by rw [← Edx.out]; exact ofQ_sz _ _ _ (by omega) (by decide) (by decide)
          have Sdx : Hid (SmO (some dx)) := Sz.o Zdx (by decide)
          obtain ⟨dxs, Edxs⟩ : ∃ z : Rat, Hid (dx * s = z) := ⟨_, rfl⟩
          have Adxs := abs_mul Adx Hs.out
          rw [Edxs.out] at Adxs
          have Zdxs : Hid (Sz 2 dxs) := szEq Edxs (Sz.mul Zdx Zs)
          have Sdxs : Hid (SmO (some dxs)) := Sz.o Zdxs (by decide)
          obtain ⟨rx2, Erx2⟩ : ∃ z : Rat, Hid (rx + dxs = z) := ⟨_, rfl⟩
          have Zrx2 : Hid (Sz (2 * A + 64) rx2) := szEq Erx2 ((Sz.add Zrx Zdxs).mono (by omega))
          have Srx : Hid (SmO (some rx)) := Sz.o Zrx (by omega)
          obtain ⟨dy, Edy⟩ : ∃ z : Rat, Hid (ofQ (S0.s2.nx 17 - 8) 8 = z) := ⟨_, rfl⟩
          have Ady : -1 ≤ dy ∧ dy ≤ 1 := by rw [← Edy.out]; exact ofQ_abs8 (by omega) (by omega)
          have Zdy : Hid (Sz 1 dy) := by rw [← Edy.out]; exact ofQ_sz _ _ _ (by omega) (by decide) (by decide)
          have Sdy : Hid (SmO (some dy)) := Sz.o Zdy (by decide)
          obtain ⟨dys, Edys⟩ : ∃ z : Rat, Hid (dy * s = z) := ⟨_, rfl⟩
          have Adys := abs_mul Ady Hs.out
          rw [Edys.out] at Adys
          have Zdys : Hid (Sz 2 dys) := szEq Edys (Sz.mul Zdy Zs)
          have Sdys : Hid (SmO (some dys)) := Sz.o Zdys (by decide)
          obtain ⟨ry2, Ery2⟩ : ∃ z : Rat, Hid (ry + dys = z) := ⟨_, rfl⟩
          have Zry2 : Hid (Sz (2 * A + 64) ry2) := szEq Ery2 ((Sz.add Zry Zdys).mono (by omega))
          have Sry : Hid (SmO (some ry)) := Sz.o Zry (by omega)
          have S1 := SL dxs dys Adxs Adys
          rw [Frx, Fry, show rx + dxs = rx2 from Erx2.out, show ry + dys = ry2 from Ery2.out, show tvQ (-t) ft = rt from Frt] at S1
          obtain ⟨nx, Enx⟩ : ∃ z : Rat, Hid (valO (some x2) + rotX (valO (some t2)) (valO (some rx2)) (valO (some ry2)) = z) := ⟨_, rfl⟩
          have Fnx : putX (⟨x2, y2, t2⟩ : Fr) rx2 ry2 = nx := by rw [← Enx.out]; exact Rat.add_comm _ _
          obtain ⟨ny, Eny⟩ : ∃ z : Rat, Hid (valO (some y2) + rotY (valO (some t2)) (valO (some rx2)) (valO (some ry2)) = z) := ⟨_, rfl⟩
          have Fny : putY (⟨x2, y2, t2⟩ : Fr) rx2 ry2 = ny := by rw [← Eny.out]; exact Rat.add_comm _ _
          have Znx : Hid (Sz (4 * A + 155) nx) := szEq Enx ((Sz.add Zx2 (szrx Zt2 Zrx2 Zry2)).mono (by omega))
          have Zny : Hid (Sz (4 * A + 155) ny) := szEq Eny ((Sz.add Zy2 (szry Zt2 Zrx2 Zry2)).mono (by omega))
          obtain ⟨nt, Ent⟩ : ∃ z : Rat, Hid ((valO (some t2) + valO (some rt)) / (((1 : Int) : Rat) - valO (some t2) * valO (some rt)) = z) := ⟨_, rfl⟩
          have Fnt : tvQ t2 rt = nt := by rw [← Ent.out]; exact tv_comm _ _
          have Hd2 : Hid (((1 : Int) : Rat) - valO (some t2) * valO (some rt) ≠ 0) := S1.2.2.1
          have Znt : Hid (Sz (4 * B + 21) nt) := by rw [← Fnt]; exact (tvQ_sz Zt2 Zrt Hd2).mono (by omega)
          rw [Fnx, Fny, Fnt] at S1
          obtain ⟨IN, _, _, TN⟩ := S1
          have pq := ((RR.pk.grip (j := 1) (g := (⟨x, y, t⟩ : Fr)) ⟨Zx, Zy, Zt⟩ G0 (by omega) (by omega)).wid (j := 1) (b := s) (s := e0) Zs Z0 Hs.out H0.out (by omega) (by omega)).put (j := 1) (g := (⟨x2, y2, t2⟩ : Fr)) ⟨Zx2, Zy2, Zt2⟩ G21 (by omega) (by omega)
          obtain ⟨⟨k1, l1, k2, l2, k3, l3⟩, EQ⟩ : ∃ z : Ps, Hid (putP (⟨x2, y2, t2⟩ : Fr) (widP s e0 (gripP (⟨x, y, t⟩ : Fr) (⟨p1, q1, p2, q2, p3, q3⟩ : Ps))) = z) := ⟨_, rfl⟩
          have Ek1 : Hid ((putP (⟨x2, y2, t2⟩ : Fr) (widP s e0 (gripP (⟨x, y, t⟩ : Fr) (⟨p1, q1, p2, q2, p3, q3⟩ : Ps)))).a1 = k1) := congrArg Ps.a1 EQ.out
          have El1 : Hid ((putP (⟨x2, y2, t2⟩ : Fr) (widP s e0 (gripP (⟨x, y, t⟩ : Fr) (⟨p1, q1, p2, q2, p3, q3⟩ : Ps)))).b1 = l1) := congrArg Ps.b1 EQ.out
          have Ek2 : Hid ((putP (⟨x2, y2, t2⟩ : Fr) (widP s e0 (gripP (⟨x, y, t⟩ : Fr) (⟨p1, q1, p2, q2, p3, q3⟩ : Ps)))).a2 = k2) := congrArg Ps.a2 EQ.out
          have El2 : Hid ((putP (⟨x2, y2, t2⟩ : Fr) (widP s e0 (gripP (⟨x, y, t⟩ : Fr) (⟨p1, q1, p2, q2, p3, q3⟩ : Ps)))).b2 = l2) := congrArg Ps.b2 EQ.out
          have Ek3 : Hid ((putP (⟨x2, y2, t2⟩ : Fr) (widP s e0 (gripP (⟨x, y, t⟩ : Fr) (⟨p1, q1, p2, q2, p3, q3⟩ : Ps)))).a3 = k3) := congrArg Ps.a3 EQ.out
          have El3 : Hid ((putP (⟨x2, y2, t2⟩ : Fr) (widP s e0 (gripP (⟨x, y, t⟩ : Fr) (⟨p1, q1, p2, q2, p3, q3⟩ : Ps)))).b3 = l3) := congrArg Ps.b3 EQ.out
          rw [EQ.out] at pq
          have IN2 := IN
          have TN2 := TN
          rw [Ee0.out, EQ.out] at IN2 TN2
          have Q1 : Hid (PoseF (4 * A + 4 * B + 200) k1 l1 k2 l2 k3 l3) := pq.pose (by omega) (by omega)
          have ZN1 : Hid (Sz (4 * A + 4 * B + 200) nx) := Znx.out.mono (by omega)
          have ZN2 : Hid (Sz (4 * A + 4 * B + 200) ny) := Zny.out.mono (by omega)
          have ZN3 : Hid (Sz (4 * A + 4 * B + 200) nt) := Znt.out.mono (by omega)
          have GQ : Hid (hasF k1 l1 k2 l2 k3 l3 nx ny nt = true) := decide_eq_true ⟨IN2.1, IN2.2, TN2⟩
          have I1 : nx - s ≤ nx ∧ nx ≤ nx + s := self_btw Hs.out
          obtain ⟨u1, Eu1⟩ : ∃ z : Rat, Hid (mx k1 (nx - s) = z) := ⟨_, rfl⟩
          obtain ⟨v1, Ev1⟩ : ∃ z : Rat, Hid (mn l1 (nx + s) = z) := ⟨_, rfl⟩
          have L1 : (u1 ≤ nx ∧ nx ≤ v1) ∧ (k1 ≤ u1 ∧ v1 ≤ l1) ∧ v1 - u1 ≤ s + s := by rw [← Eu1.out, ← Ev1.out]; exact look_law IN2.1 I1
          have Zu1 : Hid (Sz (4 * A + 157) u1) := szEq Eu1 (szmx (pq.s1.zp.mono (by omega)) ((Sz.sub Znx Zs).mono (by omega)))
          have Zv1 : Hid (Sz (4 * A + 157) v1) := szEq Ev1 (szmn (pq.s1.zq.mono (by omega)) ((Sz.add Znx Zs).mono (by omega)))
          have I2 : ny - s ≤ ny ∧ ny ≤ ny + s := self_btw Hs.out
          obtain ⟨u2, Eu2⟩ : ∃ z : Rat, Hid (mx k2 (ny - s) = z) := ⟨_, rfl⟩
          obtain ⟨v2, Ev2⟩ : ∃ z : Rat, Hid (mn l2 (ny + s) = z) := ⟨_, rfl⟩
          have L2 : (u2 ≤ ny ∧ ny ≤ v2) ∧ (k2 ≤ u2 ∧ v2 ≤ l2) ∧ v2 - u2 ≤ s + s := by rw [← Eu2.out, ← Ev2.out]; exact look_law IN2.2 I2
          have Zu2 : Hid (Sz (4 * A + 157) u2) := szEq Eu2 (szmx (pq.s2.zp.mono (by omega)) ((Sz.sub Zny Zs).mono (by omega)))
          have Zv2 : Hid (Sz (4 * A + 157) v2) := szEq Ev2 (szmn (pq.s2.zq.mono (by omega)) ((Sz.add Zny Zs).mono (by omega)))
          have I3 : nt - e0 ≤ nt ∧ nt ≤ nt + e0 := self_btw H0.out
          obtain ⟨u3, Eu3⟩ : ∃ z : Rat, Hid (mx k3 (nt - e0) = z) := ⟨_, rfl⟩
          obtain ⟨v3, Ev3⟩ : ∃ z : Rat, Hid (mn l3 (nt + e0) = z) := ⟨_, rfl⟩
          have L3 : (u3 ≤ nt ∧ nt ≤ v3) ∧ (k3 ≤ u3 ∧ v3 ≤ l3) ∧ v3 - u3 ≤ e0 + e0 := by rw [← Eu3.out, ← Ev3.out]; exact look_law TN2 I3
          have Zu3 : Hid (Sz (4 * B + 25) u3) := szEq Eu3 (szmx (pq.s3.zp.mono (by omega)) ((Sz.sub Znt Z0).mono (by omega)))
          have Zv3 : Hid (Sz (4 * B + 25) v3) := szEq Ev3 (szmn (pq.s3.zq.mono (by omega)) ((Sz.add Znt Z0).mono (by omega)))
          have pn : Pok (4 * A + 157) (4 * B + 25) ⟨u1, v1, u2, v2, u3, v3⟩ := ⟨Spn.two Zu1 Zv1 (Rat.le_trans L1.1.1 L1.1.2) (by omega), Spn.two Zu2 Zv2 (Rat.le_trans L2.1.1 L2.1.2) (by omega), Spn.two Zu3 Zv3 (Rat.le_trans L3.1.1 L3.1.2) (by omega)⟩
          have U : Hid (PoseF (4 * A + 4 * B + 200 + 1 + 1) u1 v1 u2 v2 u3 v3) := pn.pose (by omega) (by omega)
          have Q2 : Hid (PoseF (4 * A + 4 * B + 200 + 1 + 1) k1 l1 k2 l2 k3 l3) := Q1.out.mono (by omega)
          have ZM1 : Hid (Sz (4 * A + 4 * B + 200 + 1 + 1) nx) := Znx.out.mono (by omega)
          have ZM2 : Hid (Sz (4 * A + 4 * B + 200 + 1 + 1) ny) := Zny.out.mono (by omega)
          have ZM3 : Hid (Sz (4 * A + 4 * B + 200 + 1 + 1) nt) := Znt.out.mono (by omega)
          have GU : Hid (hasF u1 v1 u2 v2 u3 v3 nx ny nt = true) := decide_eq_true ⟨L1.1, L2.1, L3.1⟩
          have GI : Hid (inF u1 v1 u2 v2 u3 v3 k1 l1 k2 l2 k3 l3 = true) := decide_eq_true ⟨L1.2.1, L2.2.1, L3.2.1⟩
          have RN : Hid (TBr (szA (j + 1)) (szB (j + 1)) u1 v1 u2 v2 u3 v3 nx ny nt) := by rw [hA2, hB2]; exact ⟨pn, L1.1, L2.1, L3.1, Znx.out.mono (by omega), Zny.out.mono (by omega), Znt.out.mono (by omega)⟩
          clear SL Frx Fry D0 Frt Adx Ady Adxs Adys Fnx Fny Fnt IN TN IN2 TN2 pq pn L1 L2 L3 I1 I2 I3
          have G4 : Hid (tWide (valO (some t2)) (tvQ (-(valO (some t))) p3 - e0) (tvQ (-(valO (some t))) q3 + e0) = false) := G21
          clear G20 G21
          have G : Hid (tWide (-(valO (some t))) p3 q3 = false) := G0
          clear G0 RR hA2 hB2
          go_wp2_with (first
              | go_skip
              | ((with_reducible refine isLoad ?_); refine ld1A H ?_ (hT := kSlc))
              | ((with_reducible refine isLoad ?_); refine ldA H ?_)
              | ((with_reducible refine isLoad ?_); refine ld1A H ?_)
              | ((with_reducible refine isStore ?_); refine stA H ?_; clear H; intro _ H)
              | ((with_reducible refine isStore ?_); refine st1A H ?_; clear H; intro _ H)
              | ((with_reducible refine isBox ?_); refine bxA H ?_; clear H; intro _ _ H)
              | ((with_reducible refine isAlloc ?_); refine alA H ?_; clear H; intro _ _ H))
          refine ((CG.out _ H.out.bel H.out.tb)).mono ?_
          rintro _ _ ⟨rfl, hb⟩
          replace H := Lib.hid (H.out.go hb)
          clear hb
          go_wp2_with (first
              | go_skip
              | ((with_reducible refine isLoad ?_); refine ld1A H ?_ (hT := kSlc))
              | ((with_reducible refine isLoad ?_); refine ldA H ?_)
              | ((with_reducible refine isLoad ?_); refine ld1A H ?_)
              | ((with_reducible refine isStore ?_); refine stA H ?_; clear H; intro _ H)
              | ((with_reducible refine isStore ?_); refine st1A H ?_; clear H; intro _ H)
              | ((with_reducible refine isBox ?_); refine bxA H ?_; clear H; intro _ _ H)
              | ((with_reducible refine isAlloc ?_); refine alA H ?_; clear H; intro _ _ H))
          refine ((CH.out _ H.out.bel H.out.tb)).mono ?_
          rintro _ _ ⟨rfl, hb⟩
          replace H := Lib.hid (H.out.go hb)
          clear hb
          go_wp2_with (first
              | go_skip
              | ((with_reducible refine isLoad ?_); refine ld1A H ?_ (hT := kSlc))
              | ((with_reducible refine isLoad ?_); refine ldA H ?_)
              | ((with_reducible refine isLoad ?_); refine ld1A H ?_)
              | ((with_reducible refine isStore ?_); refine stA H ?_; clear H; intro _ H)
              | ((with_reducible refine isStore ?_); refine st1A H ?_; clear H; intro _ H)
              | ((with_reducible refine isBox ?_); refine bxA H ?_; clear H; intro _ _ H)
              | ((with_reducible refine isAlloc ?_); refine alA H ?_; clear H; intro _ _ H))
          refine (nextH_any S0 _ 2 H HS0 (by unfold Hid; (repeat (first | apply Upd.head | apply Upd.tail | assumption))) (by decide) (by decide)).mono ?_
          rintro _ _ ⟨rfl, H2⟩
          replace H := Lib.hid H2
          clear H2
          go_wp2_with (first
              | go_skip
              | ((with_reducible refine isLoad ?_); refine ld1A H ?_ (hT := kSlc))
              | ((with_reducible refine isLoad ?_); refine ldA H ?_)
              | ((with_reducible refine isLoad ?_); refine ld1A H ?_)
              | ((with_reducible refine isStore ?_); refine stA H ?_; clear H; intro _ H)
              | ((with_reducible refine isStore ?_); refine st1A H ?_; clear H; intro _ H)
              | ((with_reducible refine isBox ?_); refine bxA H ?_; clear H; intro _ _ H)
              | ((with_reducible refine isAlloc ?_); refine alA H ?_; clear H; intro _ _ H))
          refine wp_region_R 4 13 [.a, .r (.agg #[.bool (sgO (some s)), .string (nuO (some s)), .string (deO (some s))]), .r (.agg #[.bool (sgO (some e0)), .string (nuO (some e0)), .string (deO (some e0))]), .q, .p, .p, .p, .a, .s] H (by kernel_rfl) (by kernel_rfl) (by kernel_rfl) (by decide) ?_
          simp only [List.take_succ_cons, List.take_zero, List.drop_succ_cons, List.drop_zero]
          repeat (first
              | (refine kskA ?_)
              | ((with_reducible refine kLoad ?_); refine kldA H ?_)
              | ((with_reducible refine kLoad ?_); refine kld1A H ?_)
              | ((fail_if_success (with_reducible refine kCall ?_)); (with_reducible refine kCons ?_); refine wpK_step (fun K hK => ?_); go_simp; refine hK _ ?_; clear hK K))
          refine wpKeep_nil ?_
          refine wpR_V 50 ([.bool (sgO (some x)), .string (nuO (some x)), .string (deO (some x)), .bool (sgO (some y)), .string (nuO (some y)), .string (deO (some y)), .bool false, .bool (sgO (some t)), .string (nuO (some t)), .string (deO (some t)), .bool (sgO (some x2)), .string (nuO (some x2)), .string (deO (some x2)), .bool (sgO (some y2)), .string (nuO (some y2)), .string (deO (some y2)), .bool false, .bool (sgO (some t2)), .string (nuO (some t2)), .string (deO (some t2))]) 1 (by rfl) rfl (by intro W; kernel_rfl) ?_
          intro _
          (simp only [Act.put, List.setIfInBounds_toArray, List.set_cons_succ, List.set_cons_zero])
          refine wpR_rload H (by rfl) rfl (by (first | exact wanted_none rfl | exact wanted_some rfl rfl)) (by (first | exact rRat | exact rSpan | exact rPose | exact rFrame | exact rVec | exact rTurn | exact rBox)) (by rfl) (by (repeat (first | exact List.Mem.head _ | refine List.Mem.tail _ ?_ | assumption))) (by rfl) (by rfl) ?_
          (simp only [Act.put, List.setIfInBounds_toArray, List.set_cons_succ, List.set_cons_zero])
          apply wpR_r (by rfl) (by (first | exact wanted_none rfl | exact wanted_some rfl rfl))
          · intro sx
            unfold keepsAt
            go_simp
            go_at_call 14
            exact ROf_any 0 e0 _ (by decide) (by decide) Ee0 (H.out.tbx sx)
          (simp only [Act.put, List.setIfInBounds_toArray, List.set_cons_succ, List.set_cons_zero])
          apply wpR_C (by rfl) (by (first | exact wanted_none rfl | exact wanted_some rfl rfl))
          · intro W hW
            unfold keepsAt
            go_simp
            go_at_call 13
            exact Drift_ok (i := A) (j := 1) (k := B) p1 q1 p2 q2 p3 q3 (some x) (some y) (some t) (some x2) (some y2) (some t2) s e0 _ k3 l3 k1 l1 k2 l2 _ (by omega) B1 B2 B3 Zx Zy Zt Zx2 Zy2 Zt2 Zs Hs Z0 H0 (hW.out.get (by (repeat (first | exact List.Mem.head _ | refine List.Mem.tail _ ?_ | assumption)))) G G4 Ek3 El3 Ek1 El1 Ek2 El2 hW.out.tb
          (simp only [Act.put, List.setIfInBounds_toArray, List.set_cons_succ, List.set_cons_zero])
          refine wpR_P (by rfl) (by (first | exact wanted_none rfl | exact wanted_some rfl rfl)) (by intro W; first | (go_simp; rfl) | go_simp) ?_
          (simp only [Act.put, List.setIfInBounds_toArray, List.set_cons_succ, List.set_cons_zero])
          refine wpR_P (by rfl) (by (first | exact wanted_none rfl | exact wanted_some rfl rfl)) (by intro W; first | (go_simp; rfl) | go_simp) ?_
          (simp only [Act.put, List.setIfInBounds_toArray, List.set_cons_succ, List.set_cons_zero])
          refine wpR_P (by rfl) (by (first | exact wanted_none rfl | exact wanted_some rfl rfl)) (by intro W; first | (go_simp; rfl) | go_simp) ?_
          (simp only [Act.put, List.setIfInBounds_toArray, List.set_cons_succ, List.set_cons_zero])
          refine wpR_A (by rfl) (by simp [Allocs, go_sem]; intro _ _; rfl) ?_
          intro _
          (simp only [Act.put, List.setIfInBounds_toArray, List.set_cons_succ, List.set_cons_zero])
          refine wpR_S (by rfl) rfl rfl rfl (by (first | exact rRat | exact rSpan | exact rPose | exact rFrame | exact rVec | exact rTurn | exact rBox)) (by rfl) (by rfl) (by (repeat (first | apply Upd.head | apply Upd.tail | assumption))) (by rfl) (by (simp only [List.drop, List.take, List.nil_append, List.cons_append]); rfl) (by exact Nat.le_of_ble_eq_true rfl) (by rfl) ?_
          refine wpR_nil ?_
          clear H
          intro _ H
          go_wp2_with (first
              | go_skip
              | ((with_reducible refine isLoad ?_); refine ld1A H ?_ (hT := kSlc))
              | ((with_reducible refine isLoad ?_); refine ldA H ?_)
              | ((with_reducible refine isLoad ?_); refine ld1A H ?_)
              | ((with_reducible refine isStore ?_); refine stA H ?_; clear H; intro _ H)
              | ((with_reducible refine isStore ?_); refine st1A H ?_; clear H; intro _ H)
              | ((with_reducible refine isBox ?_); refine bxA H ?_; clear H; intro _ _ H)
              | ((with_reducible refine isAlloc ?_); refine alA H ?_; clear H; intro _ _ H))
          refine wp_region_F1 4 H (by kernel_rfl) (by kernel_rfl) rfl (by simp [Allocs, go_sem]; intro _ _; rfl) ?_
          simp only [List.take_succ_cons, List.take_zero, List.drop_succ_cons, List.drop_zero]
          repeat (first
              | (refine kskA ?_)
              | ((with_reducible refine kLoad ?_); refine kldA H ?_)
              | ((with_reducible refine kLoad ?_); refine kld1A H ?_)
              | ((fail_if_success (with_reducible refine kCall ?_)); (with_reducible refine kCons ?_); refine wpK_step (fun K hK => ?_); go_simp; refine hK _ ?_; clear hK K))
          refine wpK_step (fun K hK => ?_)
          go_simp
          apply Exists.intro
          refine ⟨fun sx => ?_, hK _ ?_⟩
          · go_at_call 16
            exact frameBack_any (j := 1) (k := 1) (some x) (some y) (some t) bx by_ bt _ (by decide) Zx Zy Zt Ebx Eby_ Ebt (H.out.tbx sx)
          clear hK K
          repeat (first
              | (refine kskA ?_)
              | ((with_reducible refine kLoad ?_); refine kldA H ?_)
              | ((with_reducible refine kLoad ?_); refine kld1A H ?_)
              | ((fail_if_success (with_reducible refine kCall ?_)); (with_reducible refine kCons ?_); refine wpK_step (fun K hK => ?_); go_simp; refine hK _ ?_; clear hK K))
          refine wpK_step (fun K hK => ?_)
          go_simp
          apply Exists.intro
          refine ⟨fun sx => ?_, hK _ ?_⟩
          · go_at_call 15
            exact frameThen_any (i := 35) (j := 1) (k := A) (m := B) (some bx) (some by_) (some bt) (some fx) (some fy) (some ft) rx ry rt _ (by omega) Zbx Zby_ Zbt Zfx Zfy Zft Erx Ery Hd Ert (H.out.tbx sx)
          clear hK K
          repeat (first
              | (refine kskA ?_)
              | ((with_reducible refine kLoad ?_); refine kldA H ?_)
              | ((with_reducible refine kLoad ?_); refine kld1A H ?_)
              | ((fail_if_success (with_reducible refine kCall ?_)); (with_reducible refine kCons ?_); refine wpK_step (fun K hK => ?_); go_simp; refine hK _ ?_; clear hK K))
          refine wpKeep_nil ?_
          clear H
          intro _ _ H
          (simp only [Act.put, List.setIfInBounds_toArray, List.set_cons_succ, List.set_cons_zero])
          go_wp2_with (first
              | go_skip
              | ((with_reducible refine isLoad ?_); refine ld1A H ?_ (hT := kSlc))
              | ((with_reducible refine isLoad ?_); refine ldA H ?_)
              | ((with_reducible refine isLoad ?_); refine ld1A H ?_)
              | ((with_reducible refine isStore ?_); refine stA H ?_; clear H; intro _ H)
              | ((with_reducible refine isStore ?_); refine st1A H ?_; clear H; intro _ H)
              | ((with_reducible refine isBox ?_); refine bxA H ?_; clear H; intro _ _ H)
              | ((with_reducible refine isAlloc ?_); refine alA H ?_; clear H; intro _ _ H))
          refine (nextH_any S0.sn _ 17 H HS1 (by unfold Hid; (repeat (first | apply Upd.head | apply Upd.tail | assumption))) (by decide) (by decide)).mono ?_
          rintro _ _ ⟨rfl, H2⟩
          replace H := Lib.hid H2
          clear H2
          go_wp2_with (first
              | go_skip
              | ((with_reducible refine isLoad ?_); refine ld1A H ?_ (hT := kSlc))
              | ((with_reducible refine isLoad ?_); refine ldA H ?_)
              | ((with_reducible refine isLoad ?_); refine ld1A H ?_)
              | ((with_reducible refine isStore ?_); refine stA H ?_; clear H; intro _ H)
              | ((with_reducible refine isStore ?_); refine st1A H ?_; clear H; intro _ H)
              | ((with_reducible refine isBox ?_); refine bxA H ?_; clear H; intro _ _ H)
              | ((with_reducible refine isAlloc ?_); refine alA H ?_; clear H; intro _ _ H))
          refine (ofQ_any (S0.sn.nx 17 - 8) 8 dx _ (by omega) (by omega) (by decide) (by decide) Edx).mono ?_
          rintro _ _ ⟨rfl, hb⟩
          replace H := Lib.hid (H.out.go hb)
          clear hb
          go_wp2_with (first
              | go_skip
              | ((with_reducible refine isLoad ?_); refine ld1A H ?_ (hT := kSlc))
              | ((with_reducible refine isLoad ?_); refine ldA H ?_)
              | ((with_reducible refine isLoad ?_); refine ld1A H ?_)
              | ((with_reducible refine isStore ?_); refine stA H ?_; clear H; intro _ H)
              | ((with_reducible refine isStore ?_); refine st1A H ?_; clear H; intro _ H)
              | ((with_reducible refine isBox ?_); refine bxA H ?_; clear H; intro _ _ H)
              | ((with_reducible refine isAlloc ?_); refine alA H ?_; clear H; intro _ _ H))
          refine (nextH_any S0.s2 _ 17 H HS2 (by unfold Hid; (repeat (first | apply Upd.head | apply Upd.tail | assumption))) (by decide) (by decide)).mono ?_
          rintro _ _ ⟨rfl, H2⟩
          replace H := Lib.hid H2
          clear H2
          go_wp2_with (first
              | go_skip
              | ((with_reducible refine isLoad ?_); refine ld1A H ?_ (hT := kSlc))
              | ((with_reducible refine isLoad ?_); refine ldA H ?_)
              | ((with_reducible refine isLoad ?_); refine ld1A H ?_)
              | ((with_reducible refine isStore ?_); refine stA H ?_; clear H; intro _ H)
              | ((with_reducible refine isStore ?_); refine st1A H ?_; clear H; intro _ H)
              | ((with_reducible refine isBox ?_); refine bxA H ?_; clear H; intro _ _ H)
              | ((with_reducible refine isAlloc ?_); refine alA H ?_; clear H; intro _ _ H))
          refine (ofQ_any (S0.s2.nx 17 - 8) 8 dy _ (by omega) (by omega) (by decide) (by decide) Edy).mono ?_
          rintro _ _ ⟨rfl, hb⟩
          replace H := Lib.hid (H.out.go hb)
          clear hb
          go_wp2_with (first
              | go_skip
              | ((with_reducible refine isLoad ?_); refine ld1A H ?_ (hT := kSlc))
              | ((with_reducible refine isLoad ?_); refine ldA H ?_)
              | ((with_reducible refine isLoad ?_); refine ld1A H ?_)
              | ((with_reducible refine isStore ?_); refine stA H ?_; clear H; intro _ H)
              | ((with_reducible refine isStore ?_); refine st1A H ?_; clear H; intro _ H)
              | ((with_reducible refine isBox ?_); refine bxA H ?_; clear H; intro _ _ H)
              | ((with_reducible refine isAlloc ?_); refine alA H ?_; clear H; intro _ _ H))
          refine wp_region_T 16 H (by kernel_rfl) (by kernel_rfl) ?_
          simp only [List.take_succ_cons, List.take_zero, List.drop_succ_cons, List.drop_zero]
          repeat (first
              | (refine kskA ?_)
              | ((with_reducible refine kLoad ?_); refine kldA H ?_)
              | ((with_reducible refine kLoad ?_); refine kld1A H ?_)
              | ((fail_if_success (with_reducible refine kCall ?_)); (with_reducible refine kCons ?_); refine wpK_step (fun K hK => ?_); go_simp; refine hK _ ?_; clear hK K))
          refine wpK_step (fun K hK => ?_)
          go_simp
          apply Exists.intro
          refine ⟨fun sx => ?_, hK _ ?_⟩
          · go_at_call 18
            exact RMul_any (some dx) (some s) dxs _ Sdx Ss Edxs (H.out.tbx sx)
          clear hK K
          repeat (first
              | (refine kskA ?_)
              | ((with_reducible refine kLoad ?_); refine kldA H ?_)
              | ((with_reducible refine kLoad ?_); refine kld1A H ?_)
              | ((fail_if_success (with_reducible refine kCall ?_)); (with_reducible refine kCons ?_); refine wpK_step (fun K hK => ?_); go_simp; refine hK _ ?_; clear hK K))
          refine wpK_step (fun K hK => ?_)
          go_simp
          apply Exists.intro
          refine ⟨fun sx => ?_, hK _ ?_⟩
          · go_at_call 17
            exact RAdd_any (some rx) (some dxs) rx2 _ Srx Sdxs Erx2 (H.out.tbx sx)
          clear hK K
          repeat (first
              | (refine kskA ?_)
              | ((with_reducible refine kLoad ?_); refine kldA H ?_)
              | ((with_reducible refine kLoad ?_); refine kld1A H ?_)
              | ((fail_if_success (with_reducible refine kCall ?_)); (with_reducible refine kCons ?_); refine wpK_step (fun K hK => ?_); go_simp; refine hK _ ?_; clear hK K))
          refine wpK_step (fun K hK => ?_)
          go_simp
          apply Exists.intro
          refine ⟨fun sx => ?_, hK _ ?_⟩
          · go_at_call 18
            exact RMul_any (some dy) (some s) dys _ Sdy Ss Edys (H.out.tbx sx)
          clear hK K
          repeat (first
              | (refine kskA ?_)
              | ((with_reducible refine kLoad ?_); refine kldA H ?_)
              | ((with_reducible refine kLoad ?_); refine kld1A H ?_)
              | ((fail_if_success (with_reducible refine kCall ?_)); (with_reducible refine kCons ?_); refine wpK_step (fun K hK => ?_); go_simp; refine hK _ ?_; clear hK K))
          refine wpK_step (fun K hK => ?_)
          go_simp
          apply Exists.intro
          refine ⟨fun sx => ?_, hK _ ?_⟩
          · go_at_call 17
            exact RAdd_any (some ry) (some dys) ry2 _ Sry Sdys Ery2 (H.out.tbx sx)
          clear hK K
          repeat (first
              | (refine kskA ?_)
              | ((with_reducible refine kLoad ?_); refine kldA H ?_)
              | ((with_reducible refine kLoad ?_); refine kld1A H ?_)
              | ((fail_if_success (with_reducible refine kCall ?_)); (with_reducible refine kCons ?_); refine wpK_step (fun K hK => ?_); go_simp; refine hK _ ?_; clear hK K))
          refine wpKeep_nil ?_
          clear H
          intro _ H
          go_wp2_with (first
              | go_skip
              | ((with_reducible refine isLoad ?_); refine ld1A H ?_ (hT := kSlc))
              | ((with_reducible refine isLoad ?_); refine ldA H ?_)
              | ((with_reducible refine isLoad ?_); refine ld1A H ?_)
              | ((with_reducible refine isStore ?_); refine stA H ?_; clear H; intro _ H)
              | ((with_reducible refine isStore ?_); refine st1A H ?_; clear H; intro _ H)
              | ((with_reducible refine isBox ?_); refine bxA H ?_; clear H; intro _ _ H)
              | ((with_reducible refine isAlloc ?_); refine alA H ?_; clear H; intro _ _ H))
          refine wp_region_P (vs := [.bool (sgO (some nx)), .string (nuO (some nx)), .string (deO (some nx)), .bool (sgO (some ny)), .string (nuO (some ny)), .string (deO (some ny)), .bool false, .bool (sgO (some nt)), .string (nuO (some nt)), .string (deO (some nt))]) 4 H (.tail (.tail (.tail (.tail (.tail (.tail (.tail (.tail (.tail (.tail .head)))))))))) rfl (by kernel_rfl) (by kernel_rfl) rfl ?_
          simp only [List.take_succ_cons, List.take_zero, List.drop_succ_cons, List.drop_zero]
          repeat (first
              | ((with_reducible refine kzLoad ?_); refine wpKZ_loadH H rfl (by (first | exact wanted_none rfl | exact wanted_some rfl rfl)) (by (first | exact rRat | exact rSpan | exact rPose | exact rFrame | exact rVec | exact rTurn | exact rBox)) (by rfl) (by (repeat (first | exact List.Mem.head _ | refine List.Mem.tail _ ?_ | assumption))) (by (first | exact H.out.nei (i := 0) (j := 10) rfl rfl (by decide) | exact H.out.nei (i := 1) (j := 10) rfl rfl (by decide) | exact H.out.nei (i := 2) (j := 10) rfl rfl (by decide) | exact H.out.nei (i := 3) (j := 10) rfl rfl (by decide) | exact H.out.nei (i := 4) (j := 10) rfl rfl (by decide) | exact H.out.nei (i := 5) (j := 10) rfl rfl (by decide) | exact H.out.nei (i := 6) (j := 10) rfl rfl (by decide) | exact H.out.nei (i := 7) (j := 10) rfl rfl (by decide) | exact H.out.nei (i := 8) (j := 10) rfl rfl (by decide) | exact H.out.nei (i := 9) (j := 10) rfl rfl (by decide) | exact H.out.nei (i := 11) (j := 10) rfl rfl (by decide) | exact H.out.nei (i := 12) (j := 10) rfl rfl (by decide) | exact H.out.nei (i := 13) (j := 10) rfl rfl (by decide) | exact H.out.nei (i := 14) (j := 10) rfl rfl (by decide) | exact H.out.nei (i := 15) (j := 10) rfl rfl (by decide))) (by (simp only [List.drop, List.take]); rfl) (by rfl) ?_; (simp only [Act.put, List.setIfInBounds_toArray, List.set_cons_succ, List.set_cons_zero]))
              | ((fail_if_success (with_reducible refine kzCall ?_)); (with_reducible refine kzCons ?_); refine wpKZ_step (fun K hK => ?_); go_simp; refine hK _ ?_; clear hK K))
          refine wpKZ_step (fun K hK => ?_)
          go_simp
          apply Exists.intro
          refine ⟨fun sx => ?_, hK _ ?_⟩
          · go_at_call 15
            exact frameThen_any (i := 1) (j := 1) (k := 2 * A + 64) (m := 2 * B + 7) (some x2) (some y2) (some t2) (some rx2) (some ry2) (some rt) nx ny nt _ (by omega) Zx2 Zy2 Zt2 Zrx2 Zry2 Zrt Enx Eny Hd2 Ent (H.out.tbz (H.out.blk (g2, _, _) (by (repeat (first | exact List.Mem.head _ | refine List.Mem.tail _ ?_ | assumption)))).1 sx)
          clear hK K
          repeat (first
              | ((with_reducible refine kzLoad ?_); refine wpKZ_loadH H rfl (by (first | exact wanted_none rfl | exact wanted_some rfl rfl)) (by (first | exact rRat | exact rSpan | exact rPose | exact rFrame | exact rVec | exact rTurn | exact rBox)) (by rfl) (by (repeat (first | exact List.Mem.head _ | refine List.Mem.tail _ ?_ | assumption))) (by (first | exact H.out.nei (i := 0) (j := 10) rfl rfl (by decide) | exact H.out.nei (i := 1) (j := 10) rfl rfl (by decide) | exact H.out.nei (i := 2) (j := 10) rfl rfl (by decide) | exact H.out.nei (i := 3) (j := 10) rfl rfl (by decide) | exact H.out.nei (i := 4) (j := 10) rfl rfl (by decide) | exact H.out.nei (i := 5) (j := 10) rfl rfl (by decide) | exact H.out.nei (i := 6) (j := 10) rfl rfl (by decide) | exact H.out.nei (i := 7) (j := 10) rfl rfl (by decide) | exact H.out.nei (i := 8) (j := 10) rfl rfl (by decide) | exact H.out.nei (i := 9) (j := 10) rfl rfl (by decide) | exact H.out.nei (i := 11) (j := 10) rfl rfl (by decide) | exact H.out.nei (i := 12) (j := 10) rfl rfl (by decide) | exact H.out.nei (i := 13) (j := 10) rfl rfl (by decide) | exact H.out.nei (i := 14) (j := 10) rfl rfl (by decide) | exact H.out.nei (i := 15) (j := 10) rfl rfl (by decide))) (by (simp only [List.drop, List.take]); rfl) (by rfl) ?_; (simp only [Act.put, List.setIfInBounds_toArray, List.set_cons_succ, List.set_cons_zero]))
              | ((fail_if_success (with_reducible refine kzCall ?_)); (with_reducible refine kzCons ?_); refine wpKZ_step (fun K hK => ?_); go_simp; refine hK _ ?_; clear hK K))
          refine wpKeepZ_nil ⟨⟨⟨_, _, _, rfl, by (first | exact rRat | exact rSpan | exact rPose | exact rFrame | exact rVec | exact rTurn | exact rBox), rfl, rfl⟩, rfl, rfl, rfl, rfl⟩, ?_⟩
          clear H
          intro _ H
          go_wp2_with (first
              | go_skip
              | ((with_reducible refine isLoad ?_); refine ld1A H ?_ (hT := kSlc))
              | ((with_reducible refine isLoad ?_); refine ldA H ?_)
              | ((with_reducible refine isLoad ?_); refine ld1A H ?_)
              | ((with_reducible refine isStore ?_); refine stA H ?_; clear H; intro _ H)
              | ((with_reducible refine isStore ?_); refine st1A H ?_; clear H; intro _ H)
              | ((with_reducible refine isBox ?_); refine bxA H ?_; clear H; intro _ _ H)
              | ((with_reducible refine isAlloc ?_); refine alA H ?_; clear H; intro _ _ H))
          refine (HasF_any (k := 4 * A + 4 * B + 200) k1 l1 k2 l2 k3 l3 nx ny nt true _ (by omega) Q1.out ZN1.out ZN2.out ZN3.out GQ H.out.tb).mono ?_
          rintro _ _ ⟨rfl, hb⟩
          replace H := Lib.hid (H.out.go hb)
          clear hb
          go_wp2_with (first
              | go_skip
              | ((with_reducible refine isLoad ?_); refine ld1A H ?_ (hT := kSlc))
              | ((with_reducible refine isLoad ?_); refine ldA H ?_)
              | ((with_reducible refine isLoad ?_); refine ld1A H ?_)
              | ((with_reducible refine isStore ?_); refine stA H ?_; clear H; intro _ H)
              | ((with_reducible refine isStore ?_); refine st1A H ?_; clear H; intro _ H)
              | ((with_reducible refine isBox ?_); refine bxA H ?_; clear H; intro _ _ H)
              | ((with_reducible refine isAlloc ?_); refine alA H ?_; clear H; intro _ _ H))
          refine wp_region_G (vs := [.bool (sgO (some u1)), .string (nuO (some u1)), .string (deO (some u1)), .bool (sgO (some v1)), .string (nuO (some v1)), .string (deO (some v1)), .bool (sgO (some u2)), .string (nuO (some u2)), .string (deO (some u2)), .bool (sgO (some v2)), .string (nuO (some v2)), .string (deO (some v2)), .bool (sgO (some u3)), .string (nuO (some u3)), .string (deO (some u3)), .bool (sgO (some v3)), .string (nuO (some v3)), .string (deO (some v3))]) 8 H (by kernel_rfl) (by kernel_rfl) rfl rfl (by simp [Allocs, go_sem]; intro _ _; rfl) (by kernel_rfl) rfl rfl ?_
          simp only [List.take_succ_cons, List.take_zero, List.drop_succ_cons, List.drop_zero]
          repeat (first
              | (refine kskA ?_)
              | ((with_reducible refine kLoad ?_); refine kldA H ?_)
              | ((with_reducible refine kLoad ?_); refine kld1A H ?_)
              | ((fail_if_success (with_reducible refine kCall ?_)); (with_reducible refine kCons ?_); refine wpK_step (fun K hK => ?_); go_simp; refine hK _ ?_; clear hK K))
          refine wpK_step (fun K hK => ?_)
          go_simp
          apply Exists.intro
          refine ⟨fun sx => ?_, hK _ ?_⟩
          · go_at_call 14
            exact ROf_any 0 e0 _ (by decide) (by decide) Ee0 (H.out.tbx sx)
          clear hK K
          repeat (first
              | (refine kskA ?_)
              | ((with_reducible refine kLoad ?_); refine kldA H ?_)
              | ((with_reducible refine kLoad ?_); refine kld1A H ?_)
              | ((fail_if_success (with_reducible refine kCall ?_)); (with_reducible refine kCons ?_); refine wpK_step (fun K hK => ?_); go_simp; refine hK _ ?_; clear hK K))
          refine wpK_step (fun K hK => ?_)
          go_simp
          apply Exists.intro
          refine ⟨fun sx => ?_, hK _ ?_⟩
          · go_at_call 19
            exact Look_any (k := 4 * A + 4 * B + 200) (m := 1) k1 l1 k2 l2 k3 l3 nx ny nt s e0 u1 v1 u2 v2 u3 v3 _ (by omega) Q1 ZN1 ZN2 ZN3 Zs Z0 Hs H0 Eu1 Ev1 Eu2 Ev2 Eu3 Ev3 U (H.out.tbx sx)
          clear hK K
          repeat (first
              | (refine kskA ?_)
              | ((with_reducible refine kLoad ?_); refine kldA H ?_)
              | ((with_reducible refine kLoad ?_); refine kld1A H ?_)
              | ((fail_if_success (with_reducible refine kCall ?_)); (with_reducible refine kCons ?_); refine wpK_step (fun K hK => ?_); go_simp; refine hK _ ?_; clear hK K))
          refine wpKeep_nil ?_
          intro _
          (simp only [Act.put, List.setIfInBounds_toArray, List.set_cons_succ, List.set_cons_zero])
          refine ⟨⟨⟨_, _, _, rfl, by (first | exact rRat | exact rSpan | exact rPose | exact rFrame | exact rVec | exact rTurn | exact rBox), rfl, rfl⟩, rfl, rfl, rfl, rfl⟩, ?_⟩
          clear H
          intro _ H
          go_wp2_with (first
              | go_skip
              | ((with_reducible refine isLoad ?_); refine ld1A H ?_ (hT := kSlc))
              | ((with_reducible refine isLoad ?_); refine ldA H ?_)
              | ((with_reducible refine isLoad ?_); refine ld1A H ?_)
              | ((with_reducible refine isStore ?_); refine stA H ?_; clear H; intro _ H)
              | ((with_reducible refine isStore ?_); refine st1A H ?_; clear H; intro _ H)
              | ((with_reducible refine isBox ?_); refine bxA H ?_; clear H; intro _ _ H)
              | ((with_reducible refine isAlloc ?_); refine alA H ?_; clear H; intro _ _ H))
          refine (HasF_any (k := 4 * A + 4 * B + 200 + 1 + 1) u1 v1 u2 v2 u3 v3 nx ny nt true _ (by omega) U.out ZM1.out ZM2.out ZM3.out GU H.out.tb).mono ?_
          rintro _ _ ⟨rfl, hb⟩
          replace H := Lib.hid (H.out.go hb)
          clear hb
          go_wp2_with (first
              | go_skip
              | ((with_reducible refine isLoad ?_); refine ld1A H ?_ (hT := kSlc))
              | ((with_reducible refine isLoad ?_); refine ldA H ?_)
              | ((with_reducible refine isLoad ?_); refine ld1A H ?_)
              | ((with_reducible refine isStore ?_); refine stA H ?_; clear H; intro _ H)
              | ((with_reducible refine isStore ?_); refine st1A H ?_; clear H; intro _ H)
              | ((with_reducible refine isBox ?_); refine bxA H ?_; clear H; intro _ _ H)
              | ((with_reducible refine isAlloc ?_); refine alA H ?_; clear H; intro _ _ H))
          refine (InF_any (k := 4 * A + 4 * B + 200 + 1 + 1) u1 v1 u2 v2 u3 v3 k1 l1 k2 l2 k3 l3 true _ (by omega) U.out Q2.out GI H.out.tb).mono ?_
          rintro _ _ ⟨rfl, hb⟩
          replace H := Lib.hid (H.out.go hb)
          clear hb
          go_wp2_with (first
              | go_skip
              | ((with_reducible refine isLoad ?_); refine ld1A H ?_ (hT := kSlc))
              | ((with_reducible refine isLoad ?_); refine ldA H ?_)
              | ((with_reducible refine isLoad ?_); refine ld1A H ?_)
              | ((with_reducible refine isStore ?_); refine stA H ?_; clear H; intro _ H)
              | ((with_reducible refine isStore ?_); refine st1A H ?_; clear H; intro _ H)
              | ((with_reducible refine isBox ?_); refine bxA H ?_; clear H; intro _ _ H)
              | ((with_reducible refine isAlloc ?_); refine alA H ?_; clear H; intro _ _ H))
          replace H := Lib.hid H.out.drop.drop.drop.drop.drop.drop.drop.drop
          go_roundw
          case rel => exact ⟨j + 1, S0.s2.sn, u1, v1, u2, v2, u3, v3, nx, ny, nt, by go_num, by omega, HS3_, RN, H⟩
          case measure => simp [intOf]; omega
    · have hjn : j = N := by omega
      subst hjn
      clear hlt
      go_wp2_with (first
          | go_skip
          | ((with_reducible refine isLoad ?_); refine ldA H ?_)
          | ((with_reducible refine isLoad ?_); refine ld1A H ?_)
          | ((with_reducible refine isStore ?_); refine stA H ?_; clear H; intro _ H)
          | ((with_reducible refine isStore ?_); refine st1A H ?_; clear H; intro _ H)
          | ((with_reducible refine isBox ?_); refine bxA H ?_; clear H; intro _ _ H)
          | ((with_reducible refine isAlloc ?_); refine alA H ?_; clear H; intro _ _ H))
      go_ret
      exact ⟨rfl, H.out.bel⟩
end Go.Proofs.YtolekonocbeekaaGreatDoor
