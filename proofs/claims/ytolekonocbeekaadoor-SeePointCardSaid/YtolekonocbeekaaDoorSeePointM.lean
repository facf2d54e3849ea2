/- gantkeep4.SeePoint, the walk. Printed by gen/seep.py. -/
import Derived.Test.YtolekonocbeekaaDoorMk18
import Derived.Test.YtolekonocbeekaaDoorMk16
namespace Go.Proofs.YtolekonocbeekaaDoor
open Go.RowKit
set_option linter.unusedVariables false
set_option maxRecDepth 100000

set_option maxHeartbeats 16000000 in
theorem seePoint_core (S1 S2 S3 S4 : Sd) (w : World) (hS1 : S1.ok w) (hS2 : S2.ok w) (hS3 : S3.ok w) (hS4 : S4.ok w) (hT : Tb w) :
    Calls Tryd.prog 5 #[.slice S1.A S1.xs.length S1.c, .slice S2.A S2.xs.length S2.c, .slice S3.A S3.xs.length S3.c, .slice S4.A S4.xs.length S4.c] w fun e w' => e = .returned (.bool true) ∧ Below w.heap.size w w' := by
  obtain ⟨a1, b1, a2, b2, a3, b3, P0, CP0⟩ := pose_ex S1 w hS1
  have CP := Lib.hid CP0
  clear CP0 hS1
  obtain ⟨fx, fy, ft, X, Y, T, zx0, zy0, zt0, CF0⟩ := within_ex S2 w hS2 a1 b1 a2 b2 a3 b3 P0 (by decide)
  have CF := Lib.hid CF0
  clear CF0 hS2
  obtain ⟨vx, Evx⟩ : ∃ z : Rat, Hid (ratX (S3.nx 1048576) = z) := ⟨_, rfl⟩
  obtain ⟨vy, Evy⟩ : ∃ z : Rat, Hid (ratX (S3.sn.nx 1048576) = z) := ⟨_, rfl⟩
  have HS3 := Lib.hid hS3
  have HS4 := Lib.hid hS4
  clear hS3 hS4
  have Zvx : Hid (Sz 1 vx) := szEq Evx (ratX_sz _)
  have Zvy : Hid (Sz 1 vy) := szEq Evy (ratX_sz _)
  have A1 : Hid (Spn 2 (some a1) (some b1) a1 b1) := (P0.pok (by decide)).s1
  have A2 : Hid (Spn 2 (some a2) (some b2) a2 b2) := (P0.pok (by decide)).s2
  have A3 : Hid (Spn 2 (some a3) (some b3) a3 b3) := (P0.pok (by decide)).s3
  clear P0
  have Zfx : Hid (Sz 14 fx) := zx0
  have Zfy : Hid (Sz 14 fy) := zy0
  have Zft : Hid (Sz 14 ft) := zt0
  clear zx0 zy0 zt0
  obtain ⟨v0, vs, EL, LN, ZL⟩ := polyL_ok S4
  obtain ⟨n, hn⟩ : ∃ n : Nat, vs.length + 1 = n := ⟨_, rfl⟩
  have hlen : (polyL S4).length = n := by rw [EL]; exact hn
  have N := Lib.hid hn
  have hn9 : n < 1000000 := by omega
  have ZL := Lib.hid ZL
  have EL := Lib.hid EL
  clear hn LN
  obtain ⟨px, Epx⟩ : ∃ z : Rat, Hid (valO (some fx) + rotX (valO (some ft)) (valO (some vx)) (valO (some vy)) = z) := ⟨_, rfl⟩
  obtain ⟨py, Epy⟩ : ∃ z : Rat, Hid (valO (some fy) + rotY (valO (some ft)) (valO (some vx)) (valO (some vy)) = z) := ⟨_, rfl⟩
  have Zpx : Hid (Sz 200 px) := szEq Epx ((Sz.add Zfx (szrx Zft Zvx Zvy)).mono (by decide))
  have Zpy : Hid (Sz 200 py) := szEq Epy ((Sz.add Zfy (szry Zft Zvx Zvy)).mono (by decide))
  obtain ⟨m1, Em1⟩ : ∃ z : Rat, Hid (ptXL a1 a3 b3 (valO (some vx)) (valO (some vy)) = z) := ⟨_, rfl⟩
  obtain ⟨n1, En1⟩ : ∃ z : Rat, Hid (ptXH b1 a3 b3 (valO (some vx)) (valO (some vy)) = z) := ⟨_, rfl⟩
  obtain ⟨m2, Em2⟩ : ∃ z : Rat, Hid (ptYL a2 a3 b3 (valO (some vx)) (valO (some vy)) = z) := ⟨_, rfl⟩
  obtain ⟨n2, En2⟩ : ∃ z : Rat, Hid (ptYH b2 a3 b3 (valO (some vx)) (valO (some vy)) = z) := ⟨_, rfl⟩
  have PIN := pt_in (x := vx) (y := vy) X Y T
  have PSZ := pt_sz A1.out A2.out A3.out Zvx Zvy (by decide)
  rw [show ptXL a1 a3 b3 vx vy = m1 from Em1.out, show ptXH b1 a3 b3 vx vy = n1 from En1.out, show ptYL a2 a3 b3 vx vy = m2 from Em2.out, show ptYH b2 a3 b3 vx vy = n2 from En2.out, show fx + rotX ft vx vy = px from Epx.out, show fy + rotY ft vx vy = py from Epy.out] at PIN
  rw [show ptXL a1 a3 b3 vx vy = m1 from Em1.out, show ptXH b1 a3 b3 vx vy = n1 from En1.out, show ptYL a2 a3 b3 vx vy = m2 from Em2.out, show ptYH b2 a3 b3 vx vy = n2 from En2.out] at PSZ
  have Zm1 : Hid (Sz 200 m1) := PSZ.1.mono (by decide)
  have Zn1 : Hid (Sz 200 n1) := PSZ.2.1.mono (by decide)
  have Zm2 : Hid (Sz 200 m2) := PSZ.2.2.1.mono (by decide)
  have Zn2 : Hid (Sz 200 n2) := PSZ.2.2.2.mono (by decide)
  have L1 : Hid (m1 ≤ px) := PIN.1.1
  have L2 : Hid (px ≤ n1) := PIN.1.2
  have L3 : Hid (m2 ≤ py) := PIN.2.1
  have L4 : Hid (py ≤ n2) := PIN.2.2
  clear PIN PSZ
  obtain ⟨xl, Exl⟩ : ∃ z : Rat, Hid (arL (ptXL a1 a3 b3 v0.1 v0.2) (vs.map (fun v : Rat × Rat => ptXL a1 a3 b3 v.1 v.2)) = z) := ⟨_, rfl⟩
  obtain ⟨yl, Eyl⟩ : ∃ z : Rat, Hid (arL (ptYL a2 a3 b3 v0.1 v0.2) (vs.map (fun v : Rat × Rat => ptYL a2 a3 b3 v.1 v.2)) = z) := ⟨_, rfl⟩
  obtain ⟨xh, Exh⟩ : ∃ z : Rat, Hid (arH (ptXH b1 a3 b3 v0.1 v0.2) (vs.map (fun v : Rat × Rat => ptXH b1 a3 b3 v.1 v.2)) = z) := ⟨_, rfl⟩
  obtain ⟨yh, Eyh⟩ : ∃ z : Rat, Hid (arH (ptYH b2 a3 b3 v0.1 v0.2) (vs.map (fun v : Rat × Rat => ptYH b2 a3 b3 v.1 v.2)) = z) := ⟨_, rfl⟩
  have SB : shP a1 b1 a2 b2 a3 b3 v0 vs vs.length xl yl xh yh := shP.full Exl.out Eyl.out Exh.out Eyh.out
  have SZ := SB.sz A1.out A2.out A3.out ZL.out (by decide)
  have Zxl : Hid (Sz 200 xl) := SZ.1.mono (by decide)
  have Zyl : Hid (Sz 200 yl) := SZ.2.1.mono (by decide)
  have Zxh : Hid (Sz 200 xh) := SZ.2.2.1.mono (by decide)
  have Zyh : Hid (Sz 200 yh) := SZ.2.2.2.mono (by decide)
  have IN : Hid (∀ v ∈ v0 :: vs, (xl ≤ fx + rotX ft v.1 v.2 ∧ fx + rotX ft v.1 v.2 ≤ xh) ∧ (yl ≤ fy + rotY ft v.1 v.2 ∧ fy + rotY ft v.1 v.2 ≤ yh)) := fun v hv => SB.inb hv X Y T
  clear SB SZ X Y T
  have H := Lib.hid (Hp.start hT)
  clear hT
  go_enter Tryd.func5, Tryd.ntmps5
  go_wp2_with (first
      | go_skip)
  refine ((CP.out _ H.out.bel H.out.tb)).mono ?_
  rintro _ _ ⟨rfl, hb⟩
  replace H := Lib.hid (H.out.go hb)
  clear hb
  go_wp2_with (first
      | ((with_reducible refine isLoad ?_); refine ldA H ?_)
      | ((with_reducible refine isStore ?_); refine stA H ?_; clear H; intro _ H)
      | ((with_reducible refine isAlloc ?_); refine alA H ?_; clear H; intro _ _ H))
  refine ((CF.out _ H.out.bel H.out.tb)).mono ?_
  rintro _ _ ⟨rfl, hb⟩
  replace H := Lib.hid (H.out.go hb)
  clear hb
  go_wp2_with (first
      | go_skip)
  refine (makeVec_any S3 vx vy _ (HS3.out.below H.out.bel) H.out.tb Evx Evy).mono ?_
  rintro _ _ ⟨rfl, hb⟩
  replace H := Lib.hid (H.out.go hb)
  clear hb
  go_wp2_with (first
      | ((with_reducible refine isStore ?_); refine stA H ?_; clear H; intro _ H)
      | ((with_reducible refine isAlloc ?_); refine alA H ?_; clear H; intro _ _ H))
  refine (Poly_any S4 _ (HS4.out.below H.out.bel) H.out.tb).mono ?_
  rintro _ _ ⟨pb, rfl, hb1, hb2, hb3⟩
  rw [hlen]
  rw [EL.out] at hb2
  replace H := Lib.hid (H.out.fresh hb3 hb1 hb2)
  clear hb1 hb2 hb3 hlen
  go_wp2_with (first
      | ((with_reducible refine isLoad ?_); refine ldA H ?_))
  refine (Shape_any (i := 2) (j := 2) (k := 1) (some a1) (some b1) a1 b1 (some a2) (some b2) a2 b2 (some a3) (some b3) a3 b3  v0 vs n pb _ xl yl xh yh _ (by decide) A1 A2 A3 N hn9 ZL (H.out.get (by (repeat (first | exact List.Mem.head _ | refine List.Mem.tail _ ?_ | assumption)))) Exl Eyl Exh Eyh H.out.tb).mono ?_
  rintro _ _ ⟨rfl, hb⟩
  replace H := Lib.hid (H.out.go hb)
  clear hb
  go_wp2_with (first
      | ((with_reducible refine isStore ?_); refine stA H ?_; clear H; intro _ H)
      | ((with_reducible refine isAlloc ?_); refine alA H ?_; clear H; intro _ _ H))
  refine wp_region_E H (by kernel_rfl) (by kernel_rfl) ?_
  refine wpK_step (fun K hK => ?_)
  go_simp
  apply Exists.intro
  refine ⟨fun sx => ?_, hK _ ?_⟩
  · go_at_call 13
    exact seen_any (k := 0) _ (by decide) (H.out.tbx sx)
  clear hK K
  repeat (first
      | ((with_reducible refine kLoad ?_); refine kldA H ?_)
      | ((fail_if_success (with_reducible refine kCall ?_)); (with_reducible refine kCons ?_); refine wpK_step (fun K hK => ?_); go_simp; refine hK _ ?_; clear hK K))
  refine wpK_step (fun K hK => ?_)
  go_simp
  apply Exists.intro
  refine ⟨fun sx => ?_, hK _ ?_⟩
  · go_at_call 29
    exact Point_any (i := 2) (j := 2) (k := 1) (some a1) (some b1) a1 b1 (some a2) (some b2) a2 b2 (some a3) (some b3) a3 b3  (some vx) (some vy) m1 n1 m2 n2 _ (by decide) A1 A2 A3 Zvx Zvy Em1 En1 Em2 En2 (H.out.tbx sx)
  clear hK K
  repeat (first
      | ((with_reducible refine kLoad ?_); refine kldA H ?_))
  refine wpK_step (fun K hK => ?_)
  go_simp
  apply Exists.intro
  refine ⟨fun sx => ?_, hK _ ?_⟩
  · go_at_call 30
    exact framePut_any (i := 14) (j := 14) (k := 1) (some fx) (some fy) (some ft) (some vx) (some vy) px py _ (by decide) Zfx Zfy Zft Zvx Zvy Epx Epy (H.out.tbx sx)
  clear hK K
  refine wpK_step (fun K hK => ?_)
  go_simp
  apply Exists.intro
  refine ⟨fun sx => ?_, hK _ ?_⟩
  · go_at_call 28
    exact inBox_true (k := 200) m1 m2 n1 n2 px py _ (by decide) Zm1 Zm2 Zn1 Zn2 Zpx Zpy L1 L2 L3 L4 (H.out.tbx sx)
  clear hK K
  repeat (first
      | ((fail_if_success (with_reducible refine kCall ?_)); (with_reducible refine kCons ?_); refine wpK_step (fun K hK => ?_); go_simp; refine hK _ ?_; clear hK K))
  refine wpKeep_nil ?_
  clear H
  intro _ H
  go_wp2_with (first
      | go_skip)
  rename_i g1 V1 V2 V3 V4 g2 V5 g3 V6 V7 V8 V9 V10 g4 V11 V12 V13 K7 hK7
  go_loopw [42] (fun i_ wr => ∃ m : Nat, i_ = .int .i64 m ∧ m ≤ n ∧ Hid (Hp w wr [(g4, 57, [.bool (sgO (some xl)), .string (nuO (some xl)), .string (deO (some xl)), .bool (sgO (some yl)), .string (nuO (some yl)), .string (deO (some yl)), .bool (sgO (some xh)), .string (nuO (some xh)), .string (deO (some xh)), .bool (sgO (some yh)), .string (nuO (some yh)), .string (deO (some yh))]), (pb, 31, vecC (v0 :: vs)), (g3, 31, [.bool (sgO (some vx)), .string (nuO (some vx)), .string (deO (some vx)), .bool (sgO (some vy)), .string (nuO (some vy)), .string (deO (some vy))]), (g2, 35, [.bool (sgO (some fx)), .string (nuO (some fx)), .string (deO (some fx)), .bool (sgO (some fy)), .string (nuO (some fy)), .string (deO (some fy)), .bool false, .bool (sgO (some ft)), .string (nuO (some ft)), .string (deO (some ft))]), (g1, 28, [.bool (sgO (some a1)), .string (nuO (some a1)), .string (deO (some a1)), .bool (sgO (some b1)), .string (nuO (some b1)), .string (deO (some b1)), .bool (sgO (some a2)), .string (nuO (some a2)), .string (deO (some a2)), .bool (sgO (some b2)), .string (nuO (some b2)), .string (deO (some b2)), .bool (sgO (some a3)), .string (nuO (some a3)), .string (deO (some a3)), .bool (sgO (some b3)), .string (nuO (some b3)), .string (deO (some b3))])])) (fun i_ _ => n - (intOf i_).toNat)
  case atStart => exact ⟨0, rfl, by omega, H⟩
  case round =>
    clear H
    obtain ⟨m, rfl, hm, H⟩ := hrel
    by_cases hlt : m < n
    · obtain ⟨v, hv⟩ : ∃ v, (v0 :: vs)[m]? = some v := ⟨_, List.getElem?_eq_getElem (by have := N.out; simp only [List.length_cons]; omega)⟩
      have HV := Lib.hid hv
      have ZV := ZL.out v (List.mem_of_getElem? hv)
      have IV := IN.out v (List.mem_of_getElem? hv)
      have Zx : Hid (SzO 1 (some v.1)) := ZV.1
      have Zy : Hid (SzO 1 (some v.2)) := ZV.2
      obtain ⟨ux, Eux⟩ : ∃ z : Rat, Hid (valO (some fx) + rotX (valO (some ft)) (valO (some v.1)) (valO (some v.2)) = z) := ⟨_, rfl⟩
      obtain ⟨uy, Euy⟩ : ∃ z : Rat, Hid (valO (some fy) + rotY (valO (some ft)) (valO (some v.1)) (valO (some v.2)) = z) := ⟨_, rfl⟩
      rw [show fx + rotX ft v.1 v.2 = ux from Eux.out, show fy + rotY ft v.1 v.2 = uy from Euy.out] at IV
      have Zux : Hid (Sz 200 ux) := szEq Eux ((Sz.add Zfx (szrx Zft ZV.1 ZV.2)).mono (by decide))
      have Zuy : Hid (Sz 200 uy) := szEq Euy ((Sz.add Zfy (szry Zft ZV.1 ZV.2)).mono (by decide))
      have K1 : Hid (xl ≤ ux) := IV.1.1
      have K2 : Hid (ux ≤ xh) := IV.1.2
      have K3 : Hid (yl ≤ uy) := IV.2.1
      have K4 : Hid (uy ≤ yh) := IV.2.2
      clear hv ZV IV
      go_wp2_with (first
          | ((with_reducible refine isLoad ?_); refine ldVm H m HV ?_)
          | ((with_reducible refine isStore ?_); refine stA H ?_; clear H; intro _ H)
          | ((with_reducible refine isAlloc ?_); refine alA H ?_; clear H; intro _ _ H))
      refine wp_region_E H (by kernel_rfl) (by kernel_rfl) ?_
      repeat (first
          | ((with_reducible refine kLoad ?_); refine kldA H ?_))
      refine wpK_step (fun K hK => ?_)
      go_simp
      apply Exists.intro
      refine ⟨fun sx => ?_, hK _ ?_⟩
      · go_at_call 30
        exact framePut_any (i := 14) (j := 14) (k := 1) (some fx) (some fy) (some ft) (some v.1) (some v.2) ux uy _ (by decide) Zfx Zfy Zft Zx Zy Eux Euy (H.out.tbx sx)
      clear hK K
      refine wpK_step (fun K hK => ?_)
      go_simp
      apply Exists.intro
      refine ⟨fun sx => ?_, hK _ ?_⟩
      · go_at_call 28
        exact inBox_true (k := 200) xl yl xh yh ux uy _ (by decide) Zxl Zyl Zxh Zyh Zux Zuy K1 K2 K3 K4 (H.out.tbx sx)
      clear hK K
      repeat (first
          | ((fail_if_success (with_reducible refine kCall ?_)); (with_reducible refine kCons ?_); refine wpK_step (fun K hK => ?_); go_simp; refine hK _ ?_; clear hK K))
      refine wpKeep_nil ?_
      clear H
      intro _ H
      go_wp2_with (first
          | go_skip)
      replace H := Lib.hid H.out.drop
      go_roundw
      case rel => exact ⟨m + 1, by go_num, by omega, H⟩
      case measure => simp [intOf]; omega
    · have hmn : m = n := by omega
      subst hmn
      clear hlt
      go_wp2_with (first
          | go_skip)
      go_ret
      exact ⟨rfl, H.out.bel⟩
end Go.Proofs.YtolekonocbeekaaDoor
