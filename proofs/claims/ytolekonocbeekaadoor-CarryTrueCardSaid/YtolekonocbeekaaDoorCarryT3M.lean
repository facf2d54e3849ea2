/- gantkeep4.CarryTrue, the walk: put2. Printed by gen/lawr6b.py. -/
import Derived.Test.YtolekonocbeekaaDoorMk18
namespace Go.Proofs.YtolekonocbeekaaDoor
open Go.RowKit
set_option linter.unusedVariables false
set_option maxRecDepth 100000

set_option maxHeartbeats 16000000 in
theorem carryTrue_put2 (S1 S2 S3 S4 : Sd) (a1 b1 a2 b2 a3 b3 fx fy ft x y t x2 y2 t2 : Rat) (w : World) (P0 : PoseF 2 a1 b1 a2 b2 a3 b3) (X : a1 ≤ fx ∧ fx ≤ b1) (Y : a2 ≤ fy ∧ fy ≤ b2) (T : a3 ≤ ft ∧ ft ≤ b3) (zx0 : Sz (3 * 2 + 8) fx) (zy0 : Sz (3 * 2 + 8) fy) (zt0 : Sz (3 * 2 + 8) ft) (Zx : Hid (Sz 1 x)) (Zy : Hid (Sz 1 y)) (Zt : Hid (Sz 1 t)) (Zx2 : Hid (Sz 1 x2)) (Zy2 : Hid (Sz 1 y2)) (Zt2 : Hid (Sz 1 t2))
    (CP : Hid (∀ W, Below w.heap.size w W → Tb W →
    Calls Tryd.prog 10 #[.slice S1.A S1.xs.length S1.c] W fun e w' => e = .returned (.agg #[.bool (sgO (some a1)), .string (nuO (some a1)), .string (deO (some a1)), .bool (sgO (some b1)), .string (nuO (some b1)), .string (deO (some b1)), .bool (sgO (some a2)), .string (nuO (some a2)), .string (deO (some a2)), .bool (sgO (some b2)), .string (nuO (some b2)), .string (deO (some b2)), .bool (sgO (some a3)), .string (nuO (some a3)), .string (deO (some a3)), .bool (sgO (some b3)), .string (nuO (some b3)), .string (deO (some b3))]) ∧ Below W.heap.size W w')) (CF : Hid (∀ W, Below w.heap.size w W → Tb W →
    Calls Tryd.prog 11 #[.agg #[.bool (sgO (some a1)), .string (nuO (some a1)), .string (deO (some a1)), .bool (sgO (some b1)), .string (nuO (some b1)), .string (deO (some b1)), .bool (sgO (some a2)), .string (nuO (some a2)), .string (deO (some a2)), .bool (sgO (some b2)), .string (nuO (some b2)), .string (deO (some b2)), .bool (sgO (some a3)), .string (nuO (some a3)), .string (deO (some a3)), .bool (sgO (some b3)), .string (nuO (some b3)), .string (deO (some b3))], .slice S2.A S2.xs.length S2.c] W fun e w' => e = .returned (.agg #[.bool (sgO (some fx)), .string (nuO (some fx)), .string (deO (some fx)), .bool (sgO (some fy)), .string (nuO (some fy)), .string (deO (some fy)), .bool false, .bool (sgO (some ft)), .string (nuO (some ft)), .string (deO (some ft))]) ∧ Below W.heap.size W w')) (CG : Hid (∀ W, Below w.heap.size w W → Tb W →
    Calls Tryd.prog 31 #[.slice S3.A S3.xs.length S3.c] W fun e w' => e = .returned (.agg #[.bool (sgO (some x)), .string (nuO (some x)), .string (deO (some x)), .bool (sgO (some y)), .string (nuO (some y)), .string (deO (some y)), .bool false, .bool (sgO (some t)), .string (nuO (some t)), .string (deO (some t))]) ∧ Below W.heap.size W w')) (CH : Hid (∀ W, Below w.heap.size w W → Tb W →
    Calls Tryd.prog 31 #[.slice S4.A S4.xs.length S4.c] W fun e w' => e = .returned (.agg #[.bool (sgO (some x2)), .string (nuO (some x2)), .string (deO (some x2)), .bool (sgO (some y2)), .string (nuO (some y2)), .string (deO (some y2)), .bool false, .bool (sgO (some t2)), .string (nuO (some t2)), .string (deO (some t2))]) ∧ Below W.heap.size W w')) (G0 : tWide (-t) a3 b3 = false) (G20 : tWide t2 (tvQ (-t) a3) (tvQ (-t) b3) = true) (hT : Tb w) :
    Calls Tryd.prog 9 #[.slice S1.A S1.xs.length S1.c, .slice S2.A S2.xs.length S2.c, .slice S3.A S3.xs.length S3.c, .slice S4.A S4.xs.length S4.c] w fun e w' => e = .returned (.bool true) ∧ Below w.heap.size w w' := by
  have D0 : tdQ (-t) ft ≠ 0 := (tv_btw G0 T.1 T.2).1
  have A1 : Hid (Spn 2 (some a1) (some b1) a1 b1) := (P0.pok (by decide)).s1
  have A2 : Hid (Spn 2 (some a2) (some b2) a2 b2) := (P0.pok (by decide)).s2
  have A3 : Hid (Spn 2 (some a3) (some b3) a3 b3) := (P0.pok (by decide)).s3
  have P := Lib.hid P0
  clear P0
  have Zfx : Hid (Sz 14 fx) := zx0
  have Zfy : Hid (Sz 14 fy) := zy0
  have Zft : Hid (Sz 14 ft) := zt0
  clear zx0 zy0 zt0
  obtain ⟨bx, Ebx⟩ : ∃ z : Rat, Hid (rotX (-(valO (some t))) (((0 : Int) : Rat) - valO (some x)) (((0 : Int) : Rat) - valO (some y)) = z) := ⟨_, rfl⟩
  obtain ⟨by_, Eby_⟩ : ∃ z : Rat, Hid (rotY (-(valO (some t))) (((0 : Int) : Rat) - valO (some x)) (((0 : Int) : Rat) - valO (some y)) = z) := ⟨_, rfl⟩
  obtain ⟨bt, Ebt⟩ : ∃ z : Rat, Hid (-(valO (some t)) = z) := ⟨_, rfl⟩
  have Zbx : Hid (Sz 35 bx) := szEq Ebx ((szrx Zt.neg ((Sz.int 0 (by decide)).sub Zx) ((Sz.int 0 (by decide)).sub Zy)).mono (by decide))
  have Zby_ : Hid (Sz 35 by_) := szEq Eby_ ((szry Zt.neg ((Sz.int 0 (by decide)).sub Zx) ((Sz.int 0 (by decide)).sub Zy)).mono (by decide))
  have Zbt : Hid (Sz 1 bt) := szEq Ebt (Sz.neg Zt)
  obtain ⟨rx, Erx⟩ : ∃ z : Rat, Hid (valO (some bx) + rotX (valO (some bt)) (valO (some fx)) (valO (some fy)) = z) := ⟨_, rfl⟩
  obtain ⟨ry, Ery⟩ : ∃ z : Rat, Hid (valO (some by_) + rotY (valO (some bt)) (valO (some fx)) (valO (some fy)) = z) := ⟨_, rfl⟩
  have Zrx : Hid (Sz 100 rx) := szEq Erx ((Sz.add Zbx (szrx Zbt Zfx Zfy)).mono (by decide))
  have Zry : Hid (Sz 100 ry) := szEq Ery ((Sz.add Zby_ (szry Zbt Zfx Zfy)).mono (by decide))
  have Frx : gripX ⟨x, y, t⟩ fx fy = rx := by rw [← Erx.out, ← Ebx.out, ← Ebt.out]; exact (back_rel x y t fx fy).1.symm
  have Fry : gripY ⟨x, y, t⟩ fx fy = ry := by rw [← Ery.out, ← Eby_.out, ← Ebt.out]; exact (back_rel x y t fx fy).2.symm
  have IN : (⟨a1, b1, a2, b2, a3, b3⟩ : Ps).has fx fy := ⟨X, Y⟩
  obtain ⟨kx, Ekx⟩ : ∃ z : Rat, Hid (valO (some fx) + rotX (valO (some ft)) (valO (some x)) (valO (some y)) = z) := ⟨_, rfl⟩
  obtain ⟨ky, Eky⟩ : ∃ z : Rat, Hid (valO (some fy) + rotY (valO (some ft)) (valO (some x)) (valO (some y)) = z) := ⟨_, rfl⟩
  have Zkx : Hid (Sz 200 kx) := szEq Ekx ((Sz.add Zfx (szrx Zft Zx Zy)).mono (by decide))
  have Zky : Hid (Sz 200 ky) := szEq Eky ((Sz.add Zfy (szry Zft Zx Zy)).mono (by decide))
  obtain ⟨m1, Em1⟩ : ∃ z : Rat, Hid (ptXL a1 a3 b3 (valO (some x)) (valO (some y)) = z) := ⟨_, rfl⟩
  obtain ⟨n1, En1⟩ : ∃ z : Rat, Hid (ptXH b1 a3 b3 (valO (some x)) (valO (some y)) = z) := ⟨_, rfl⟩
  obtain ⟨m2, Em2⟩ : ∃ z : Rat, Hid (ptYL a2 a3 b3 (valO (some x)) (valO (some y)) = z) := ⟨_, rfl⟩
  obtain ⟨n2, En2⟩ : ∃ z : Rat, Hid (ptYH b2 a3 b3 (valO (some x)) (valO (some y)) = z) := ⟨_, rfl⟩
  have PIN := pt_in (x := x) (y := y) X Y T
  rw [show ptXL a1 a3 b3 x y = m1 from Em1.out, show ptXH b1 a3 b3 x y = n1 from En1.out, show ptYL a2 a3 b3 x y = m2 from Em2.out, show ptYH b2 a3 b3 x y = n2 from En2.out, show fx + rotX ft x y = kx from Ekx.out, show fy + rotY ft x y = ky from Eky.out] at PIN
  have G : Hid (tWide (-(valO (some t))) a3 b3 = false) := G0
  obtain ⟨rt, Ert⟩ : ∃ z : Rat, Hid ((valO (some bt) + valO (some ft)) / (((1 : Int) : Rat) - valO (some bt) * valO (some ft)) = z) := ⟨_, rfl⟩
  have Hd : Hid (((1 : Int) : Rat) - valO (some bt) * valO (some ft) ≠ 0) := by rw [← Ebt.out]; exact D0
  have Frt : tvQ (-t) ft = rt := by rw [← Ert.out, ← Ebt.out]; exact tv_comm _ _
  have Zrt : Hid (Sz 40 rt) := by rw [← Frt]; exact (tvQ_sz Zt.neg Zft D0).mono (by decide)
  obtain ⟨⟨c1, d1, c2, d2, c3, d3⟩, EQ⟩ : ∃ z : Ps, Hid (gripP (⟨x, y, t⟩ : Fr) (⟨a1, b1, a2, b2, a3, b3⟩ : Ps) = z) := ⟨_, rfl⟩
  have Ec1 : Hid ((gripP (⟨x, y, t⟩ : Fr) (⟨a1, b1, a2, b2, a3, b3⟩ : Ps)).a1 = c1) := congrArg Ps.a1 EQ.out
  have Ed1 : Hid ((gripP (⟨x, y, t⟩ : Fr) (⟨a1, b1, a2, b2, a3, b3⟩ : Ps)).b1 = d1) := congrArg Ps.b1 EQ.out
  have Ec2 : Hid ((gripP (⟨x, y, t⟩ : Fr) (⟨a1, b1, a2, b2, a3, b3⟩ : Ps)).a2 = c2) := congrArg Ps.a2 EQ.out
  have Ed2 : Hid ((gripP (⟨x, y, t⟩ : Fr) (⟨a1, b1, a2, b2, a3, b3⟩ : Ps)).b2 = d2) := congrArg Ps.b2 EQ.out
  have Ec3 : Hid ((gripP (⟨x, y, t⟩ : Fr) (⟨a1, b1, a2, b2, a3, b3⟩ : Ps)).a3 = c3) := congrArg Ps.a3 EQ.out
  have Ed3 : Hid ((gripP (⟨x, y, t⟩ : Fr) (⟨a1, b1, a2, b2, a3, b3⟩ : Ps)).b3 = d3) := congrArg Ps.b3 EQ.out
  have pg := (P.out.pok (by decide)).grip (j := 1) (g := (⟨x, y, t⟩ : Fr)) ⟨Zx, Zy, Zt⟩ G0 (by decide) (by decide)
  have IG := grip_in (g := (⟨x, y, t⟩ : Fr)) IN
  have TG := tv_btw G0 T.1 T.2
  rw [EQ.out] at pg IG
  rw [show gripX (⟨x, y, t⟩ : Fr) fx fy = rx from Frx, show gripY (⟨x, y, t⟩ : Fr) fx fy = ry from Fry] at IG
  rw [show tvQ (-t) a3 = c3 from Ec3.out, show tvQ (-t) b3 = d3 from Ed3.out, Frt] at TG
  have R : Hid (PoseF 100 c1 d1 c2 d2 c3 d3) := pg.pose (by decide) (by decide)
  have GR : Hid (hasF c1 d1 c2 d2 c3 d3 rx ry rt = true) := decide_eq_true ⟨IG.1, IG.2, TG.2⟩
  have Zrt2 : Hid (Sz 100 rt) := Zrt.out.mono (by decide)
  have G2 : Hid (tWide (valO (some t2)) (tvQ (-(valO (some t))) a3) (tvQ (-(valO (some t))) b3) = true) := G20
  cases G50 : tWide t a3 b3 with
  | true =>
    have G5 : Hid (tWide (valO (some t)) a3 b3 = true) := G50
    clear G50 G0 D0 IN PIN X Y T Frx Fry G20 pg IG TG Frt
    have H := Lib.hid (Hp.start hT)
    clear hT
    go_enter Tryd.func9, Tryd.ntmps9
    go_wp2_with (first
        | go_skip)
    refine ((CP.out _ H.out.bel H.out.tb)).mono ?_
    rintro _ _ ⟨rfl, hb⟩
    replace H := Lib.hid (H.out.go hb)
    clear hb
    go_wp2_with (first
        | ((with_reducible refine isLoad ?_); refine ldA H ?_)
        | ((with_reducible refine isStore ?_); refine stA H ?_; clear H; intro _ H)
        | ((with_reducible refine isAlloc ?_); refine alA H ?_; clear H; intro _ _ H))
    refine ((CF.out _ H.out.bel H.out.tb)).mono ?_
    rintro _ _ ⟨rfl, hb⟩
    replace H := Lib.hid (H.out.go hb)
    clear hb
    go_wp2_with (first
        | go_skip)
    refine ((CG.out _ H.out.bel H.out.tb)).mono ?_
    rintro _ _ ⟨rfl, hb⟩
    replace H := Lib.hid (H.out.go hb)
    clear hb
    go_wp2_with (first
        | go_skip)
    refine ((CH.out _ H.out.bel H.out.tb)).mono ?_
    rintro _ _ ⟨rfl, hb⟩
    replace H := Lib.hid (H.out.go hb)
    clear hb
    go_wp2_with (first
        | ((with_reducible refine isStore ?_); refine stA H ?_; clear H; intro _ H)
        | ((with_reducible refine isAlloc ?_); refine alA H ?_; clear H; intro _ _ H))
    refine (carried_any _ H.out.tb).mono ?_
    rintro _ _ ⟨rfl, hb⟩
    replace H := Lib.hid (H.out.go hb)
    clear hb
    go_wp2_with (first
        | go_skip)
    refine wp_region_F1 4 H (by kernel_rfl) (by kernel_rfl) rfl (by simp [Allocs, go_sem]; intro _ _; rfl) ?_
    simp only [List.take_succ_cons, List.take_zero, List.drop_succ_cons, List.drop_zero]
    repeat (first
        | ((with_reducible refine kLoad ?_); refine kldA H ?_))
    refine wpK_step (fun K hK => ?_)
    go_simp
    apply Exists.intro
    refine ⟨fun sx => ?_, hK _ ?_⟩
    · go_at_call 40
      exact frameBack_any (j := 1) (k := 1) (some x) (some y) (some t) bx by_ bt _ (by decide) Zx Zy Zt Ebx Eby_ Ebt (H.out.tbx sx)
    clear hK K
    repeat (first
        | ((with_reducible refine kLoad ?_); refine kldA H ?_))
    refine wpK_step (fun K hK => ?_)
    go_simp
    apply Exists.intro
    refine ⟨fun sx => ?_, hK _ ?_⟩
    · go_at_call 39
      exact frameThen_any (i := 35) (j := 1) (k := 14) (m := 14) (some bx) (some by_) (some bt) (some fx) (some fy) (some ft) rx ry rt _ (by decide) Zbx Zby_ Zbt Zfx Zfy Zft Erx Ery Hd Ert (H.out.tbx sx)
    clear hK K
    refine wpKeep_nil ?_
    clear H
    intro _ _ H
    (simp only [Act.put, List.setIfInBounds_toArray, List.set_cons_succ, List.set_cons_zero])
    go_wp2_with (first
        | ((with_reducible refine isLoad ?_); refine ldA H ?_)
        | ((with_reducible refine isStore ?_); refine stA H ?_; clear H; intro _ H))
    refine (Grip_ok (i := 2) (j := 1) (k := 2) (some a1) (some b1) a1 b1 (some a2) (some b2) a2 b2 (some a3) (some b3) a3 b3 (some x) (some y) (some t) c3 d3 c1 d1 c2 d2 _ (by decide) A1 A2 A3 Zx Zy Zt G Ec3 Ed3 Ec1 Ed1 Ec2 Ed2 H.out.tb).mono ?_
    rintro _ _ ⟨rfl, hb⟩
    replace H := Lib.hid (H.out.go hb)
    clear hb
    go_wp2_with (first
        | ((with_reducible refine isLoad ?_); refine ldA H ?_)
        | ((with_reducible refine isStore ?_); refine stA H ?_; clear H; intro _ H)
        | ((with_reducible refine isAlloc ?_); refine alA H ?_; clear H; intro _ _ H))
    refine (HasF_any (k := 100) c1 d1 c2 d2 c3 d3 rx ry rt true _ (by decide) R.out Zrx.out Zry.out Zrt2.out GR H.out.tb).mono ?_
    rintro _ _ ⟨rfl, hb⟩
    replace H := Lib.hid (H.out.go hb)
    clear hb
    go_wp2_with (first
        | ((with_reducible refine isLoad ?_); refine ldA H ?_))
    refine (Carry_wide2 (i := 2) (j := 1) (k := 2) (some a1) (some b1) a1 b1 (some a2) (some b2) a2 b2 (some a3) (some b3) a3 b3 (some x) (some y) (some t) (some x2) (some y2) (some t2) _ (by decide) A1 A2 A3 Zx Zy Zt Zx2 Zy2 Zt2 G G2 H.out.tb).mono ?_
    rintro _ _ ⟨rfl, hb⟩
    replace H := Lib.hid (H.out.go hb)
    clear hb
    go_wp2_with (first
        | ((with_reducible refine isStore ?_); refine stA H ?_; clear H; intro _ H)
        | ((with_reducible refine isAlloc ?_); refine alA H ?_; clear H; intro _ _ H))
    refine wp_region_E H (by kernel_rfl) (by kernel_rfl) ?_
    repeat (first
        | (refine kskA ?_)
        | ((fail_if_success (with_reducible refine kCall ?_)); (with_reducible refine kCons ?_); refine wpK_step (fun K hK => ?_); go_simp; refine hK _ ?_; clear hK K))
    refine wpKeep_nil ?_
    clear H
    intro _ H
    go_wp2_with (first
        | ((with_reducible refine isLoad ?_); refine ldA H ?_))
    refine (Grasp_wide (i := 2) (j := 1) (k := 2) (some a1) (some b1) a1 b1 (some a2) (some b2) a2 b2 (some a3) (some b3) a3 b3 (some x) (some y) (some t) _ (by decide) A1 A2 A3 Zx Zy Zt G5 H.out.tb).mono ?_
    rintro _ _ ⟨rfl, hb⟩
    replace H := Lib.hid (H.out.go hb)
    clear hb
    go_wp2_with (first
        | ((with_reducible refine isStore ?_); refine stA H ?_; clear H; intro _ H)
        | ((with_reducible refine isAlloc ?_); refine alA H ?_; clear H; intro _ _ H))
    refine wp_region_E H (by kernel_rfl) (by kernel_rfl) ?_
    repeat (first
        | (refine kskA ?_)
        | ((fail_if_success (with_reducible refine kCall ?_)); (with_reducible refine kCons ?_); refine wpK_step (fun K hK => ?_); go_simp; refine hK _ ?_; clear hK K))
    refine wpKeep_nil ?_
    clear H
    intro _ H
    go_wp2_with (first
        | go_skip)
    go_ret
    exact ⟨rfl, H.out.bel⟩
  | false =>
    have G5 : Hid (tWide (valO (some t)) a3 b3 = false) := G50
    have TK := tv_btw G50 T.1 T.2
    obtain ⟨m3, Em3⟩ : ∃ z : Rat, Hid (tvQ (valO (some t)) a3 = z) := ⟨_, rfl⟩
    obtain ⟨n3, En3⟩ : ∃ z : Rat, Hid (tvQ (valO (some t)) b3 = z) := ⟨_, rfl⟩
    obtain ⟨kt, Ekt⟩ : ∃ z : Rat, Hid ((valO (some ft) + valO (some t)) / (((1 : Int) : Rat) - valO (some ft) * valO (some t)) = z) := ⟨_, rfl⟩
    have Fkt : tvQ t ft = kt := by rw [← Ekt.out]; exact tv_comm2 _ _
    have Hd5 : Hid (((1 : Int) : Rat) - valO (some ft) * valO (some t) ≠ 0) := by have h := TK.1; unfold tdQ at h; rw [Rat.mul_comm] at h; exact h
    have Zkt : Hid (Sz 200 kt) := by rw [← Fkt]; exact (tvQ_sz Zt Zft TK.1).mono (by decide)
    rw [show tvQ t a3 = m3 from Em3.out, show tvQ t b3 = n3 from En3.out, Fkt] at TK
    have K0 : Hid (PoseF 200 m1 n1 m2 n2 m3 n3) := by
          have h3 := Spn.tv A3.out Zt G50 (by decide)
          rw [show tvQ t a3 = m3 from Em3.out, show tvQ t b3 = n3 from En3.out] at h3
          have hp := pt_sz A1.out A2.out A3.out Zx Zy (by decide)
          rw [show ptXL a1 a3 b3 x y = m1 from Em1.out, show ptXH b1 a3 b3 x y = n1 from En1.out, show ptYL a2 a3 b3 x y = m2 from Em2.out, show ptYH b2 a3 b3 x y = n2 from En2.out] at hp
          exact ⟨Rat.le_trans PIN.1.1 PIN.1.2, Rat.le_trans PIN.2.1 PIN.2.2, h3.le, hp.1.mono (by decide), hp.2.1.mono (by decide), hp.2.2.1.mono (by decide), hp.2.2.2.mono (by decide), h3.zp.mono (by decide), h3.zq.mono (by decide)⟩
    have GK : Hid (hasF m1 n1 m2 n2 m3 n3 kx ky kt = true) := decide_eq_true ⟨PIN.1, PIN.2, TK.2⟩
    clear G50 G0 D0 IN PIN X Y T Frx Fry G20 pg IG TG Frt TK Fkt
    have H := Lib.hid (Hp.start hT)
    clear hT
    go_enter Tryd.func9, Tryd.ntmps9
    go_wp2_with (first
        | go_skip)
    refine ((CP.out _ H.out.bel H.out.tb)).mono ?_
    rintro _ _ ⟨rfl, hb⟩
    replace H := Lib.hid (H.out.go hb)
    clear hb
    go_wp2_with (first
        | ((with_reducible refine isLoad ?_); refine ldA H ?_)
        | ((with_reducible refine isStore ?_); refine stA H ?_; clear H; intro _ H)
        | ((with_reducible refine isAlloc ?_); refine alA H ?_; clear H; intro _ _ H))
    refine ((CF.out _ H.out.bel H.out.tb)).mono ?_
    rintro _ _ ⟨rfl, hb⟩
    replace H := Lib.hid (H.out.go hb)
    clear hb
    go_wp2_with (first
        | go_skip)
    refine ((CG.out _ H.out.bel H.out.tb)).mono ?_
    rintro _ _ ⟨rfl, hb⟩
    replace H := Lib.hid (H.out.go hb)
    clear hb
    go_wp2_with (first
        | go_skip)
    refine ((CH.out _ H.out.bel H.out.tb)).mono ?_
    rintro _ _ ⟨rfl, hb⟩
    replace H := Lib.hid (H.out.go hb)
    clear hb
    go_wp2_with (first
        | ((with_reducible refine isStore ?_); refine stA H ?_; clear H; intro _ H)
        | ((with_reducible refine isAlloc ?_); refine alA H ?_; clear H; intro _ _ H))
    refine (carried_any _ H.out.tb).mono ?_
    rintro _ _ ⟨rfl, hb⟩
    replace H := Lib.hid (H.out.go hb)
    clear hb
    go_wp2_with (first
        | go_skip)
    refine wp_region_F1 4 H (by kernel_rfl) (by kernel_rfl) rfl (by simp [Allocs, go_sem]; intro _ _; rfl) ?_
    simp only [List.take_succ_cons, List.take_zero, List.drop_succ_cons, List.drop_zero]
    repeat (first
        | ((with_reducible refine kLoad ?_); refine kldA H ?_))
    refine wpK_step (fun K hK => ?_)
    go_simp
    apply Exists.intro
    refine ⟨fun sx => ?_, hK _ ?_⟩
    · go_at_call 40
      exact frameBack_any (j := 1) (k := 1) (some x) (some y) (some t) bx by_ bt _ (by decide) Zx Zy Zt Ebx Eby_ Ebt (H.out.tbx sx)
    clear hK K
    repeat (first
        | ((with_reducible refine kLoad ?_); refine kldA H ?_))
    refine wpK_step (fun K hK => ?_)
    go_simp
    apply Exists.intro
    refine ⟨fun sx => ?_, hK _ ?_⟩
    · go_at_call 39
      exact frameThen_any (i := 35) (j := 1) (k := 14) (m := 14) (some bx) (some by_) (some bt) (some fx) (some fy) (some ft) rx ry rt _ (by decide) Zbx Zby_ Zbt Zfx Zfy Zft Erx Ery Hd Ert (H.out.tbx sx)
    clear hK K
    refine wpKeep_nil ?_
    clear H
    intro _ _ H
    (simp only [Act.put, List.setIfInBounds_toArray, List.set_cons_succ, List.set_cons_zero])
    go_wp2_with (first
        | ((with_reducible refine isLoad ?_); refine ldA H ?_)
        | ((with_reducible refine isStore ?_); refine stA H ?_; clear H; intro _ H))
    refine (Grip_ok (i := 2) (j := 1) (k := 2) (some a1) (some b1) a1 b1 (some a2) (some b2) a2 b2 (some a3) (some b3) a3 b3 (some x) (some y) (some t) c3 d3 c1 d1 c2 d2 _ (by decide) A1 A2 A3 Zx Zy Zt G Ec3 Ed3 Ec1 Ed1 Ec2 Ed2 H.out.tb).mono ?_
    rintro _ _ ⟨rfl, hb⟩
    replace H := Lib.hid (H.out.go hb)
    clear hb
    go_wp2_with (first
        | ((with_reducible refine isLoad ?_); refine ldA H ?_)
        | ((with_reducible refine isStore ?_); refine stA H ?_; clear H; intro _ H)
        | ((with_reducible refine isAlloc ?_); refine alA H ?_; clear H; intro _ _ H))
    refine (HasF_any (k := 100) c1 d1 c2 d2 c3 d3 rx ry rt true _ (by decide) R.out Zrx.out Zry.out Zrt2.out GR H.out.tb).mono ?_
    rintro _ _ ⟨rfl, hb⟩
    replace H := Lib.hid (H.out.go hb)
    clear hb
    go_wp2_with (first
        | ((with_reducible refine isLoad ?_); refine ldA H ?_))
    refine (Carry_wide2 (i := 2) (j := 1) (k := 2) (some a1) (some b1) a1 b1 (some a2) (some b2) a2 b2 (some a3) (some b3) a3 b3 (some x) (some y) (some t) (some x2) (some y2) (some t2) _ (by decide) A1 A2 A3 Zx Zy Zt Zx2 Zy2 Zt2 G G2 H.out.tb).mono ?_
    rintro _ _ ⟨rfl, hb⟩
    replace H := Lib.hid (H.out.go hb)
    clear hb
    go_wp2_with (first
        | ((with_reducible refine isStore ?_); refine stA H ?_; clear H; intro _ H)
        | ((with_reducible refine isAlloc ?_); refine alA H ?_; clear H; intro _ _ H))
    refine wp_region_E H (by kernel_rfl) (by kernel_rfl) ?_
    repeat (first
        | (refine kskA ?_)
        | ((fail_if_success (with_reducible refine kCall ?_)); (with_reducible refine kCons ?_); refine wpK_step (fun K hK => ?_); go_simp; refine hK _ ?_; clear hK K))
    refine wpKeep_nil ?_
    clear H
    intro _ H
    go_wp2_with (first
        | ((with_reducible refine isLoad ?_); refine ldA H ?_))
    refine (Grasp_ok (i := 2) (j := 1) (k := 2) (some a1) (some b1) a1 b1 (some a2) (some b2) a2 b2 (some a3) (some b3) a3 b3 (some x) (some y) (some t) m3 n3 m1 n1 m2 n2 _ (by decide) A1 A2 A3 Zx Zy Zt G5 Em3 En3 Em1 En1 Em2 En2 H.out.tb).mono ?_
    rintro _ _ ⟨rfl, hb⟩
    replace H := Lib.hid (H.out.go hb)
    clear hb
    go_wp2_with (first
        | ((with_reducible refine isStore ?_); refine stA H ?_; clear H; intro _ H)
        | ((with_reducible refine isAlloc ?_); refine alA H ?_; clear H; intro _ _ H))
    refine wp_region_E H (by kernel_rfl) (by kernel_rfl) ?_
    repeat (first
        | ((with_reducible refine kLoad ?_); refine kldA H ?_)
        | ((fail_if_success (with_reducible refine kCall ?_)); (with_reducible refine kCons ?_); refine wpK_step (fun K hK => ?_); go_simp; refine hK _ ?_; clear hK K))
    refine wpK_step (fun K hK => ?_)
    go_simp
    apply Exists.intro
    refine ⟨fun sx => ?_, hK _ ?_⟩
    · go_at_call 39
      exact frameThen_any (i := 14) (j := 14) (k := 1) (m := 1) (some fx) (some fy) (some ft) (some x) (some y) (some t) kx ky kt _ (by decide) Zfx Zfy Zft Zx Zy Zt Ekx Eky Hd5 Ekt (H.out.tbx sx)
    clear hK K
    refine wpK_step (fun K hK => ?_)
    go_simp
    apply Exists.intro
    refine ⟨fun sx => ?_, hK _ ?_⟩
    · go_at_call 14
      exact HasF_any (k := 200) m1 n1 m2 n2 m3 n3 kx ky kt true _ (by decide) K0.out Zkx.out Zky.out Zkt.out GK (H.out.tbx sx)
    clear hK K
    repeat (first
        | (refine kskA ?_)
        | ((fail_if_success (with_reducible refine kCall ?_)); (with_reducible refine kCons ?_); refine wpK_step (fun K hK => ?_); go_simp; refine hK _ ?_; clear hK K))
    refine wpKeep_nil ?_
    clear H
    intro _ H
    go_wp2_with (first
        | go_skip)
    go_ret
    exact ⟨rfl, H.out.bel⟩
end Go.Proofs.YtolekonocbeekaaDoor
