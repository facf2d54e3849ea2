/- gantkeep4.SeeLooks, the walk. Printed by gen/lawr6b.py. -/
import Derived.Test.YtolekonocbeekaaDoorMk18
import Derived.Test.YtolekonocbeekaaDoorMk16
namespace Go.Proofs.YtolekonocbeekaaDoor
open Go.RowKit
set_option linter.unusedVariables false
set_option maxRecDepth 100000

theorem btw_swap {x x2 e : Rat} (h : x - e ≤ x2 ∧ x2 ≤ x + e) : x2 - e ≤ x ∧ x ≤ x2 + e := by grind
theorem look_law {a b x x2 e : Rat} (h1 : a ≤ x ∧ x ≤ b) (h2 : x2 - e ≤ x ∧ x ≤ x2 + e) : (mx a (x2 - e) ≤ x ∧ x ≤ mn b (x2 + e)) ∧ (a ≤ mx a (x2 - e) ∧ mn b (x2 + e) ≤ b) ∧ mn b (x2 + e) - mx a (x2 - e) ≤ e + e := by
  refine ⟨⟨mx_le.2 ⟨h1.1, h2.1⟩, le_mn.2 ⟨h1.2, h2.2⟩⟩, ⟨(le_mx _ _).1, (mn_le _ _).1⟩, ?_⟩
  have := (le_mx a (x2 - e)).2
  have := (mn_le b (x2 + e)).2
  grind
set_option maxHeartbeats 8000000 in
theorem seeLooks_core (S1 : Sd) (S2 : Sd) (S3 : Sd) (b c : Int) (hb1 : -9223372036854775808 ≤ b) (hb2 : b ≤ 9223372036854775807) (hc1 : -9223372036854775808 ≤ c) (hc2 : c ≤ 9223372036854775807) (w : World) (hS1 : S1.ok w) (hS2 : S2.ok w) (hS3 : S3.ok w) (hT : Tb w) :
    Calls Tryd.prog 4 #[.slice S1.A S1.xs.length S1.c, .slice S2.A S2.xs.length S2.c, .slice S3.A S3.xs.length S3.c, .int .i64 b, .int .i64 c] w fun e w' => e = .returned (.bool true) ∧ Below w.heap.size w w' := by
  obtain ⟨a1, b1, a2, b2, a3, b3, P0, CP0⟩ := pose_ex S1 w hS1
  obtain ⟨x, y, t, X, Y, T, zx0, zy0, zt0, CF0⟩ := within_ex S2 w hS2 a1 b1 a2 b2 a3 b3 P0 (by decide)
  have n1 := mod_bd b (show (0 : Int) < 9 by decide)
  have n2 := mod_bd c (show (0 : Int) < 5 by decide)
  obtain ⟨m1, M1⟩ : ∃ z : Int, Hid (b % 9 = z) := ⟨_, rfl⟩
  obtain ⟨m2, M2⟩ : ∃ z : Int, Hid (c % 5 = z) := ⟨_, rfl⟩
  rw [M1.out] at n1
  rw [M2.out] at n2
  obtain ⟨e, Ee⟩ : ∃ z : Rat, Hid (ofQ m1 4 = z) := ⟨_, rfl⟩
  obtain ⟨s, Es⟩ : ∃ z : Rat, Hid (ofQ m2 8 = z) := ⟨_, rfl⟩
  have He : Hid (0 ≤ e) := by rw [← Ee.out]; exact ofQ_nn n1.1 (by decide)
  have Hs : Hid (0 ≤ s) := by rw [← Es.out]; exact ofQ_nn n2.1 (by decide)
  have Ze : Hid (Sz 1 e) := by rw [← Ee.out]; exact ofQ_sz _ _ _ (by omega) (by decide) (by decide)
  have Zs : Hid (Sz 1 s) := by rw [← Es.out]; exact ofQ_sz _ _ _ (by omega) (by decide) (by decide)
  have Se : Hid (SmO (some e)) := Sz.o Ze (by decide)
  have Ss : Hid (SmO (some s)) := Sz.o Zs (by decide)
  have Sx : Hid (SmO (some x)) := Sz.o zx0 (by decide)
  have Sy : Hid (SmO (some y)) := Sz.o zy0 (by decide)
  have St : Hid (SmO (some t)) := Sz.o zt0 (by decide)
  obtain ⟨l1, El1⟩ : ∃ z : Rat, Hid (x - e = z) := ⟨_, rfl⟩
  obtain ⟨h1, Eh1⟩ : ∃ z : Rat, Hid (x + e = z) := ⟨_, rfl⟩
  have Zl1 : Hid (Sz 16 l1) := szEq El1 (Sz.sub zx0 Ze)
  have Zh1 : Hid (Sz 16 h1) := szEq Eh1 (Sz.add zx0 Ze)
  obtain ⟨l2, El2⟩ : ∃ z : Rat, Hid (y - e = z) := ⟨_, rfl⟩
  obtain ⟨h2, Eh2⟩ : ∃ z : Rat, Hid (y + e = z) := ⟨_, rfl⟩
  have Zl2 : Hid (Sz 16 l2) := szEq El2 (Sz.sub zy0 Ze)
  have Zh2 : Hid (Sz 16 h2) := szEq Eh2 (Sz.add zy0 Ze)
  obtain ⟨l3, El3⟩ : ∃ z : Rat, Hid (t - s = z) := ⟨_, rfl⟩
  obtain ⟨h3, Eh3⟩ : ∃ z : Rat, Hid (t + s = z) := ⟨_, rfl⟩
  have Zl3 : Hid (Sz 16 l3) := szEq El3 (Sz.sub zt0 Zs)
  have Zh3 : Hid (Sz 16 h3) := szEq Eh3 (Sz.add zt0 Zs)
  have R0 : PoseF 16 l1 h1 l2 h2 l3 h3 := ⟨by rw [← El1.out, ← Eh1.out]; exact sub_le_add He.out, by rw [← El2.out, ← Eh2.out]; exact sub_le_add He.out, by rw [← El3.out, ← Eh3.out]; exact sub_le_add Hs.out, Zl1, Zh1, Zl2, Zh2, Zl3, Zh3⟩
  obtain ⟨x2, y2, t2, X2, Y2, T2, zx2, zy2, zt2, CG0⟩ := within_ex S3 w hS3 l1 h1 l2 h2 l3 h3 R0 (by decide)
  have Zx2 : Hid (Sz 56 x2) := zx2
  have Zy2 : Hid (Sz 56 y2) := zy2
  have Zt2 : Hid (Sz 56 t2) := zt2
  have P : Hid (PoseF 56 a1 b1 a2 b2 a3 b3) := P0.mono (by decide)
  have I1 : (a1 ≤ x ∧ x ≤ b1) ∧ (x2 - e ≤ x ∧ x ≤ x2 + e) := by rw [← El1.out, ← Eh1.out] at X2; exact ⟨X, btw_swap X2⟩
  obtain ⟨u1, Eu1⟩ : ∃ z : Rat, Hid (mx a1 (x2 - e) = z) := ⟨_, rfl⟩
  obtain ⟨v1, Ev1⟩ : ∃ z : Rat, Hid (mn b1 (x2 + e) = z) := ⟨_, rfl⟩
  have K1 : (u1 ≤ x ∧ x ≤ v1) ∧ (a1 ≤ u1 ∧ v1 ≤ b1) ∧ v1 - u1 ≤ e + e := by rw [← Eu1.out, ← Ev1.out]; exact look_law I1.1 I1.2
  have Zu1 : Hid (Sz 58 u1) := szEq Eu1 (szmx (P.out.za1.mono (by decide)) (Sz.sub Zx2 Ze))
  have Zv1 : Hid (Sz 58 v1) := szEq Ev1 (szmn (P.out.zb1.mono (by decide)) (Sz.add Zx2 Ze))
  have I2 : (a2 ≤ y ∧ y ≤ b2) ∧ (y2 - e ≤ y ∧ y ≤ y2 + e) := by rw [← El2.out, ← Eh2.out] at Y2; exact ⟨Y, btw_swap Y2⟩
  obtain ⟨u2, Eu2⟩ : ∃ z : Rat, Hid (mx a2 (y2 - e) = z) := ⟨_, rfl⟩
  obtain ⟨v2, Ev2⟩ : ∃ z : Rat, Hid (mn b2 (y2 + e) = z) := ⟨_, rfl⟩
  have K2 : (u2 ≤ y ∧ y ≤ v2) ∧ (a2 ≤ u2 ∧ v2 ≤ b2) ∧ v2 - u2 ≤ e + e := by rw [← Eu2.out, ← Ev2.out]; exact look_law I2.1 I2.2
  have Zu2 : Hid (Sz 58 u2) := szEq Eu2 (szmx (P.out.za2.mono (by decide)) (Sz.sub Zy2 Ze))
  have Zv2 : Hid (Sz 58 v2) := szEq Ev2 (szmn (P.out.zb2.mono (by decide)) (Sz.add Zy2 Ze))
  have I3 : (a3 ≤ t ∧ t ≤ b3) ∧ (t2 - s ≤ t ∧ t ≤ t2 + s) := by rw [← El3.out, ← Eh3.out] at T2; exact ⟨T, btw_swap T2⟩
  obtain ⟨u3, Eu3⟩ : ∃ z : Rat, Hid (mx a3 (t2 - s) = z) := ⟨_, rfl⟩
  obtain ⟨v3, Ev3⟩ : ∃ z : Rat, Hid (mn b3 (t2 + s) = z) := ⟨_, rfl⟩
  have K3 : (u3 ≤ t ∧ t ≤ v3) ∧ (a3 ≤ u3 ∧ v3 ≤ b3) ∧ v3 - u3 ≤ s + s := by rw [← Eu3.out, ← Ev3.out]; exact look_law I3.1 I3.2
  have Zu3 : Hid (Sz 58 u3) := szEq Eu3 (szmx (P.out.za3.mono (by decide)) (Sz.sub Zt2 Zs))
  have Zv3 : Hid (Sz 58 v3) := szEq Ev3 (szmn (P.out.zb3.mono (by decide)) (Sz.add Zt2 Zs))
  have U : Hid (PoseF 58 u1 v1 u2 v2 u3 v3) := ⟨Rat.le_trans K1.1.1 K1.1.2, Rat.le_trans K2.1.1 K2.1.2, Rat.le_trans K3.1.1 K3.1.2, Zu1, Zv1, Zu2, Zv2, Zu3, Zv3⟩
  have U57 : Hid (PoseF (56 + 1 + 1) u1 v1 u2 v2 u3 v3) := U
  have P58 : Hid (PoseF 58 a1 b1 a2 b2 a3 b3) := P0.mono (by decide)
  have GH : Hid (hasF u1 v1 u2 v2 u3 v3 x y t = true) := decide_eq_true ⟨K1.1, K2.1, K3.1⟩
  have GI : Hid (inF u1 v1 u2 v2 u3 v3 a1 b1 a2 b2 a3 b3 = true) := decide_eq_true ⟨K1.2.1, K2.2.1, K3.2.1⟩
  obtain ⟨g1, Eg1⟩ : ∃ z : Rat, Hid (mx (lgS (some u1) (some v1)) (lgS (some u2) (some v2)) = z) := ⟨_, rfl⟩
  obtain ⟨g3, Eg3⟩ : ∃ z : Rat, Hid (lgS (some u3) (some v3) = z) := ⟨_, rfl⟩
  have Fg1 : mx (v1 - u1) (v2 - u2) = g1 := by have h := Eg1.out; rw [lgS_q U.out.l1, lgS_q U.out.l2] at h; exact h
  have Fg3 : v3 - u3 = g3 := by have h := Eg3.out; rw [lgS_q U.out.l3] at h; exact h
  have Sg1 : Hid (SmO (some g1)) := by rw [← Fg1]; exact Sz.o (k := 117) (szmx (Sz.sub Zv1 Zu1) (Sz.sub Zv2 Zu2)) (by decide)
  have Sg3 : Hid (SmO (some g3)) := by rw [← Fg3]; exact Sz.o (Sz.sub Zv3 Zu3) (by decide)
  obtain ⟨ee, Eee⟩ : ∃ z : Rat, Hid (e + e = z) := ⟨_, rfl⟩
  obtain ⟨ss, Ess⟩ : ∃ z : Rat, Hid (s + s = z) := ⟨_, rfl⟩
  have See : Hid (SmO (some ee)) := by rw [← Eee.out]; exact Sz.o (Sz.add Ze Ze) (by decide)
  have Sss : Hid (SmO (some ss)) := by rw [← Ess.out]; exact Sz.o (Sz.add Zs Zs) (by decide)
  obtain ⟨q1, Q1⟩ : ∃ z : Int, Hid (cmpQ (valO (some g1)) (valO (some ee)) = z) := ⟨_, rfl⟩
  obtain ⟨q2, Q2⟩ : ∃ z : Int, Hid (cmpQ (valO (some g3)) (valO (some ss)) = z) := ⟨_, rfl⟩
  have D1 : decide (q1 ≤ 0) = true := decide_eq_true (by rw [← Q1.out]; refine cmpQ_le.2 ?_; show g1 ≤ ee; rw [← Fg1, ← Eee.out]; exact mx_le_r K1.2.2 K2.2.2)
  have D2 : decide (q2 ≤ 0) = true := decide_eq_true (by rw [← Q2.out]; refine cmpQ_le.2 ?_; show g3 ≤ ss; rw [← Fg3, ← Ess.out]; exact K3.2.2)
  obtain ⟨d1, Ed1⟩ : ∃ z : Rat, Hid (mdS (some u1) (some v1) = z) := ⟨_, rfl⟩
  have Fd1 : (u1 + v1) / ((2 : Int) : Rat) = d1 := by have h := Ed1.out; rw [mdS_q U.out.l1] at h; exact h
  have Zd1 : Hid (Sz 120 d1) := by rw [← Fd1]; exact sz_mid Zu1 Zv1
  obtain ⟨d2, Ed2⟩ : ∃ z : Rat, Hid (mdS (some u2) (some v2) = z) := ⟨_, rfl⟩
  have Fd2 : (u2 + v2) / ((2 : Int) : Rat) = d2 := by have h := Ed2.out; rw [mdS_q U.out.l2] at h; exact h
  have Zd2 : Hid (Sz 120 d2) := by rw [← Fd2]; exact sz_mid Zu2 Zv2
  obtain ⟨d3, Ed3⟩ : ∃ z : Rat, Hid (mdS (some u3) (some v3) = z) := ⟨_, rfl⟩
  have Fd3 : (u3 + v3) / ((2 : Int) : Rat) = d3 := by have h := Ed3.out; rw [mdS_q U.out.l3] at h; exact h
  have Zd3 : Hid (Sz 120 d3) := by rw [← Fd3]; exact sz_mid Zu3 Zv3
  have GM : Hid (hasF u1 v1 u2 v2 u3 v3 d1 d2 d3 = true) := by rw [← Fd1, ← Fd2, ← Fd3]; exact decide_eq_true ⟨mid_in U.out.l1, mid_in U.out.l2, mid_in U.out.l3⟩
  have U120 : Hid (PoseF 120 u1 v1 u2 v2 u3 v3) := U.out.mono (by decide)
  have CP := Lib.hid CP0
  have CF := Lib.hid CF0
  have CG := Lib.hid CG0
  have zx := Lib.hid (zx0.mono (show 14 ≤ 58 by decide))
  have zy := Lib.hid (zy0.mono (show 14 ≤ 58 by decide))
  have zt := Lib.hid (zt0.mono (show 14 ≤ 58 by decide))
  have N1 : 0 ≤ m1 ∧ m1 < 9 := n1
  obtain ⟨N1a, N1b⟩ := N1
  obtain ⟨N2a, N2b⟩ := n2
  clear hS1 hS2 hS3 CP0 CF0 CG0 zx0 zy0 zt0 n1 K1 K2 K3 I1 I2 I3 Fg1 Fg3 Fd1 Fd2 Fd3 X Y T X2 Y2 T2 P0 R0 zx2 zy2 zt2
  have H := Lib.hid (Hp.start hT)
  clear hT
  go_enter Tryd.func4, Tryd.ntmps4
  go_wp2_with (first
      | go_skip)
  refine ((CP.out _ H.out.bel H.out.tb)).mono ?_
  rintro _ _ ⟨rfl, hb⟩
  replace H := Lib.hid (H.out.go hb)
  clear hb
  go_wp2_with (first
      | ((with_reducible refine isLoad ?_); refine ldA H ?_)
      | ((with_reducible refine isStore ?_); refine stA H ?_; clear H; intro _ H)
      | ((with_reducible refine isAlloc ?_); refine alA H ?_; clear H; intro _ _ H))
  refine ((CF.out _ H.out.bel H.out.tb)).mono ?_
  rintro _ _ ⟨rfl, hb⟩
  replace H := Lib.hid (H.out.go hb)
  clear hb
  go_wp2_with (first
      | ((with_reducible refine isStore ?_); refine stA H ?_; clear H; intro _ H)
      | ((with_reducible refine isAlloc ?_); refine alA H ?_; clear H; intro _ _ H))
  refine (belowQ_any b 9 m1 _ (by decide) hb1 hb2 (by decide) M1).mono ?_
  rintro _ _ ⟨rfl, hb⟩
  replace H := Lib.hid (H.out.go hb)
  clear hb
  go_wp2_with (first
      | go_skip)
  refine (ofQ_any m1 4 e _ (by omega) (by omega) (by decide) (by decide) Ee).mono ?_
  rintro _ _ ⟨rfl, hb⟩
  replace H := Lib.hid (H.out.go hb)
  clear hb
  go_wp2_with (first
      | go_skip)
  refine (belowQ_any c 5 m2 _ (by decide) hc1 hc2 (by decide) M2).mono ?_
  rintro _ _ ⟨rfl, hb⟩
  replace H := Lib.hid (H.out.go hb)
  clear hb
  go_wp2_with (first
      | go_skip)
  refine (ofQ_any m2 8 s _ (by omega) (by omega) (by decide) (by decide) Es).mono ?_
  rintro _ _ ⟨rfl, hb⟩
  replace H := Lib.hid (H.out.go hb)
  clear hb
  go_wp2_with (first
      | ((with_reducible refine isStore ?_); refine stA H ?_; clear H; intro _ H)
      | ((with_reducible refine isAlloc ?_); refine alA H ?_; clear H; intro _ _ H))
  refine wp_region_F1 36 H (by kernel_rfl) (by kernel_rfl) rfl (by simp [Allocs, go_sem]; intro _ _; rfl) ?_
  simp only [List.take_succ_cons, List.take_zero, List.drop_succ_cons, List.drop_zero]
  repeat (first
      | ((with_reducible refine kLoad ?_); refine kldA H ?_)
      | ((fail_if_success (with_reducible refine kCall ?_)); (with_reducible refine kCons ?_); refine wpK_step (fun K hK => ?_); go_simp; refine hK _ ?_; clear hK K))
  refine wpK_step (fun K hK => ?_)
  go_simp
  apply Exists.intro
  refine ⟨fun sx => ?_, hK _ ?_⟩
  · go_at_call 19
    exact RSub_any (some x) (some e) l1 _ Sx Se El1 (H.out.tbx sx)
  clear hK K
  repeat (first
      | ((with_reducible refine kLoad ?_); refine kldA H ?_)
      | ((fail_if_success (with_reducible refine kCall ?_)); (with_reducible refine kCons ?_); refine wpK_step (fun K hK => ?_); go_simp; refine hK _ ?_; clear hK K))
  refine wpK_step (fun K hK => ?_)
  go_simp
  apply Exists.intro
  refine ⟨fun sx => ?_, hK _ ?_⟩
  · go_at_call 20
    exact RAdd_any (some x) (some e) h1 _ Sx Se Eh1 (H.out.tbx sx)
  clear hK K
  repeat (first
      | ((with_reducible refine kLoad ?_); refine kldA H ?_)
      | ((fail_if_success (with_reducible refine kCall ?_)); (with_reducible refine kCons ?_); refine wpK_step (fun K hK => ?_); go_simp; refine hK _ ?_; clear hK K))
  refine wpK_step (fun K hK => ?_)
  go_simp
  apply Exists.intro
  refine ⟨fun sx => ?_, hK _ ?_⟩
  · go_at_call 19
    exact RSub_any (some y) (some e) l2 _ Sy Se El2 (H.out.tbx sx)
  clear hK K
  repeat (first
      | ((with_reducible refine kLoad ?_); refine kldA H ?_)
      | ((fail_if_success (with_reducible refine kCall ?_)); (with_reducible refine kCons ?_); refine wpK_step (fun K hK => ?_); go_simp; refine hK _ ?_; clear hK K))
  refine wpK_step (fun K hK => ?_)
  go_simp
  apply Exists.intro
  refine ⟨fun sx => ?_, hK _ ?_⟩
  · go_at_call 20
    exact RAdd_any (some y) (some e) h2 _ Sy Se Eh2 (H.out.tbx sx)
  clear hK K
  repeat (first
      | ((with_reducible refine kLoad ?_); refine kldA H ?_)
      | ((fail_if_success (with_reducible refine kCall ?_)); (with_reducible refine kCons ?_); refine wpK_step (fun K hK => ?_); go_simp; refine hK _ ?_; clear hK K))
  refine wpK_step (fun K hK => ?_)
  go_simp
  apply Exists.intro
  refine ⟨fun sx => ?_, hK _ ?_⟩
  · go_at_call 19
    exact RSub_any (some t) (some s) l3 _ St Ss El3 (H.out.tbx sx)
  clear hK K
  repeat (first
      | ((with_reducible refine kLoad ?_); refine kldA H ?_)
      | ((fail_if_success (with_reducible refine kCall ?_)); (with_reducible refine kCons ?_); refine wpK_step (fun K hK => ?_); go_simp; refine hK _ ?_; clear hK K))
  refine wpK_step (fun K hK => ?_)
  go_simp
  apply Exists.intro
  refine ⟨fun sx => ?_, hK _ ?_⟩
  · go_at_call 20
    exact RAdd_any (some t) (some s) h3 _ St Ss Eh3 (H.out.tbx sx)
  clear hK K
  repeat (first
      | ((fail_if_success (with_reducible refine kCall ?_)); (with_reducible refine kCons ?_); refine wpK_step (fun K hK => ?_); go_simp; refine hK _ ?_; clear hK K))
  refine wpK_step (fun K hK => ?_)
  go_simp
  apply Exists.intro
  refine ⟨fun sx => ?_, hK _ ?_⟩
  · go_at_call 11
    exact CG.out _ (H.out.belx sx) (H.out.tbx sx)
  clear hK K
  refine wpKeep_nil ?_
  clear H
  intro _ _ H
  (simp only [Act.put, List.setIfInBounds_toArray, List.set_cons_succ, List.set_cons_zero])
  go_wp2_with (first
      | ((with_reducible refine isLoad ?_); refine ldA H ?_)
      | ((with_reducible refine isStore ?_); refine stA H ?_; clear H; intro _ H))
  refine (Look_any (k := 56) (m := 1) a1 b1 a2 b2 a3 b3 x2 y2 t2 e s u1 v1 u2 v2 u3 v3 _ (by decide) P Zx2 Zy2 Zt2 Ze Zs He Hs Eu1 Ev1 Eu2 Ev2 Eu3 Ev3 U57 H.out.tb).mono ?_
  rintro _ _ ⟨rfl, hb⟩
  replace H := Lib.hid (H.out.go hb)
  clear hb
  go_wp2_with (first
      | ((with_reducible refine isStore ?_); refine stA H ?_; clear H; intro _ H)
      | ((with_reducible refine isAlloc ?_); refine alA H ?_; clear H; intro _ _ H))
  refine (seen_any (k := 0) _ (by decide) H.out.tb).mono ?_
  rintro _ _ ⟨rfl, hb⟩
  replace H := Lib.hid (H.out.go hb)
  clear hb
  go_wp2_with (first
      | ((with_reducible refine isLoad ?_); refine ldA H ?_))
  refine (HasF_any (k := 58) u1 v1 u2 v2 u3 v3 x y t true _ (by decide) U.out zx.out zy.out zt.out GH H.out.tb).mono ?_
  rintro _ _ ⟨rfl, hb⟩
  replace H := Lib.hid (H.out.go hb)
  clear hb
  go_wp2_with (first
      | ((with_reducible refine isLoad ?_); refine ldA H ?_))
  refine (InF_any (k := 58) u1 v1 u2 v2 u3 v3 a1 b1 a2 b2 a3 b3 true _ (by decide) U.out P58.out GI H.out.tb).mono ?_
  rintro _ _ ⟨rfl, hb⟩
  replace H := Lib.hid (H.out.go hb)
  clear hb
  go_wp2_with (first
      | ((with_reducible refine isLoad ?_); refine ldA H ?_))
  refine (Width_any (k := 58) (some u1) (some v1) (some u2) (some v2) (some u3) (some v3) g3 g1 _ (by decide) Zu1 Zv1 Zu2 Zv2 Zu3 Zv3 Eg3 Eg1 H.out.tb).mono ?_
  rintro _ _ ⟨rfl, hb⟩
  replace H := Lib.hid (H.out.go hb)
  clear hb
  go_wp2_with (first
      | ((with_reducible refine isStore ?_); refine stA H ?_; clear H; intro _ H)
      | ((with_reducible refine isAlloc ?_); refine alA H ?_; clear H; intro _ _ H))
  refine wp_region_E H (by kernel_rfl) (by kernel_rfl) ?_
  repeat (first
      | ((with_reducible refine kLoad ?_); refine kldA H ?_))
  refine wpK_step (fun K hK => ?_)
  go_simp
  apply Exists.intro
  refine ⟨fun sx => ?_, hK _ ?_⟩
  · go_at_call 20
    exact RAdd_any (some e) (some e) ee _ Se Se Eee (H.out.tbx sx)
  clear hK K
  refine wpK_step (fun K hK => ?_)
  go_simp
  apply Exists.intro
  refine ⟨fun sx => ?_, hK _ ?_⟩
  · go_at_call 23
    exact RCmp_any (some g1) (some ee) q1 _ Sg1 See Q1 (H.out.tbx sx)
  clear hK K
  repeat (first
      | ((with_reducible refine kLoad ?_); refine kldA H ?_)
      | ((fail_if_success (with_reducible refine kCall ?_)); (with_reducible refine kCons ?_); refine wpK_step (fun K hK => ?_); go_simp; refine hK _ ?_; clear hK K))
  refine wpK_step (fun K hK => ?_)
  go_simp
  apply Exists.intro
  refine ⟨fun sx => ?_, hK _ ?_⟩
  · go_at_call 20
    exact RAdd_any (some s) (some s) ss _ Ss Ss Ess (H.out.tbx sx)
  clear hK K
  refine wpK_step (fun K hK => ?_)
  go_simp
  apply Exists.intro
  refine ⟨fun sx => ?_, hK _ ?_⟩
  · go_at_call 23
    exact RCmp_any (some g3) (some ss) q2 _ Sg3 Sss Q2 (H.out.tbx sx)
  clear hK K
  repeat (first
      | ((with_reducible refine kLoad ?_); refine kldA H ?_)
      | ((fail_if_success (with_reducible refine kCall ?_)); (with_reducible refine kCons ?_); refine wpK_step (fun K hK => ?_); go_simp; refine hK _ ?_; clear hK K))
  refine wpK_step (fun K hK => ?_)
  go_simp
  apply Exists.intro
  refine ⟨fun sx => ?_, hK _ ?_⟩
  · go_at_call 24
    exact Middle_any (k := 58) (some u1) (some v1) (some u2) (some v2) (some u3) (some v3) d1 d2 d3 _ (by decide) Zu1 Zv1 Zu2 Zv2 Zu3 Zv3 Ed1 Ed2 Ed3 (H.out.tbx sx)
  clear hK K
  refine wpK_step (fun K hK => ?_)
  go_simp
  apply Exists.intro
  refine ⟨fun sx => ?_, hK _ ?_⟩
  · go_at_call 14
    exact HasF_any (k := 120) u1 v1 u2 v2 u3 v3 d1 d2 d3 true _ (by decide) U120.out Zd1.out Zd2.out Zd3.out GM (H.out.tbx sx)
  clear hK K
  repeat (first
      | ((fail_if_success (with_reducible refine kCall ?_)); (with_reducible refine kCons ?_); refine wpK_step (fun K hK => ?_); go_simp; refine hK _ ?_; clear hK K))
  refine wpKeep_nil ?_
  clear H
  intro _ H
  go_wp2_with (first
      | go_skip)
  go_ret
  exact ⟨rfl, H.out.bel⟩
end Go.Proofs.YtolekonocbeekaaDoor
