/- gantkeep4.CarryBack, the walk. Printed by gen/lawr6b.py. -/
import Derived.Test.YtolekonocbeekaaDoorMk18
import Derived.Test.YtolekonocbeekaaDoorMk17
namespace Go.Proofs.YtolekonocbeekaaDoor
open Go.RowKit
set_option linter.unusedVariables false
set_option maxRecDepth 100000

set_option maxHeartbeats 8000000 in
theorem carryBack_core (S1 : Sd) (S2 : Sd) (S3 : Sd) (w : World) (hS1 : S1.ok w) (hS2 : S2.ok w) (hS3 : S3.ok w) (hT : Tb w) :
    Calls Tryd.prog 6 #[.slice S1.A S1.xs.length S1.c, .slice S2.A S2.xs.length S2.c, .slice S3.A S3.xs.length S3.c] w fun e w' => e = .returned (.bool true) ∧ Below w.heap.size w w' := by
  obtain ⟨a1, b1, a2, b2, a3, b3, P0, CP0⟩ := pose_ex S1 w hS1
  have CP := Lib.hid CP0
  clear CP0 hS1
  obtain ⟨x, y, t, Zx0, Zy0, Zt0, CG0⟩ := frame_ex S2 w hS2
  have CG := Lib.hid CG0
  have Zx : Hid (Sz 1 x) := Zx0
  have Zy : Hid (Sz 1 y) := Zy0
  have Zt : Hid (Sz 1 t) := Zt0
  clear CG0 Zx0 Zy0 Zt0 hS2
  obtain ⟨x2, y2, t2, Zx20, Zy20, Zt20, CH0⟩ := frame_ex S3 w hS3
  have CH := Lib.hid CH0
  have Zx2 : Hid (Sz 1 x2) := Zx20
  have Zy2 : Hid (Sz 1 y2) := Zy20
  have Zt2 : Hid (Sz 1 t2) := Zt20
  clear CH0 Zx20 Zy20 Zt20 hS3
  have A1 : Hid (Spn 2 (some a1) (some b1) a1 b1) := (P0.pok (by decide)).s1
  have A2 : Hid (Spn 2 (some a2) (some b2) a2 b2) := (P0.pok (by decide)).s2
  have A3 : Hid (Spn 2 (some a3) (some b3) a3 b3) := (P0.pok (by decide)).s3
  have P := Lib.hid P0
  clear P0
  cases G0 : tWide (-t) a3 b3 with
  | true =>
    have G : Hid (tWide (-(valO (some t))) a3 b3 = true) := G0
    clear G0
    have H := Lib.hid (Hp.start hT)
    clear hT
    go_enter Tryd.func6, Tryd.ntmps6
    go_wp2_with (first
        | go_skip)
    refine ((CP.out _ H.out.bel H.out.tb)).mono ?_
    rintro _ _ ⟨rfl, hb⟩
    replace H := Lib.hid (H.out.go hb)
    clear hb
    go_wp2_with (first
        | go_skip)
    refine ((CG.out _ H.out.bel H.out.tb)).mono ?_
    rintro _ _ ⟨rfl, hb⟩
    replace H := Lib.hid (H.out.go hb)
    clear hb
    go_wp2_with (first
        | go_skip)
    refine ((CH.out _ H.out.bel H.out.tb)).mono ?_
    rintro _ _ ⟨rfl, hb⟩
    replace H := Lib.hid (H.out.go hb)
    clear hb
    go_wp2_with (first
        | ((with_reducible refine isLoad ?_); refine ldA H ?_)
        | ((with_reducible refine isStore ?_); refine stA H ?_; clear H; intro _ H)
        | ((with_reducible refine isAlloc ?_); refine alA H ?_; clear H; intro _ _ H))
    refine (Carry_wide1 (i := 2) (j := 1) (k := 2) (some a1) (some b1) a1 b1 (some a2) (some b2) a2 b2 (some a3) (some b3) a3 b3 (some x) (some y) (some t) (some x2) (some y2) (some t2) _ (by decide) A1 A2 A3 Zx Zy Zt Zx2 Zy2 Zt2 G H.out.tb).mono ?_
    rintro _ _ ⟨rfl, hb⟩
    replace H := Lib.hid (H.out.go hb)
    clear hb
    go_wp2_with (first
        | ((with_reducible refine isStore ?_); refine stA H ?_; clear H; intro _ H)
        | ((with_reducible refine isAlloc ?_); refine alA H ?_; clear H; intro _ _ H))
    refine (carried_any _ H.out.tb).mono ?_
    rintro _ _ ⟨rfl, hb⟩
    replace H := Lib.hid (H.out.go hb)
    clear hb
    go_wp2_with (first
        | go_skip)
    refine (carried_any _ H.out.tb).mono ?_
    rintro _ _ ⟨rfl, hb⟩
    replace H := Lib.hid (H.out.go hb)
    clear hb
    go_wp2_with (first
        | go_skip)
    go_ret
    exact ⟨rfl, H.out.bel⟩
  | false =>
    have G : Hid (tWide (-(valO (some t))) a3 b3 = false) := G0
    cases G20 : tWide t2 (tvQ (-t) a3) (tvQ (-t) b3) with
    | true =>
      have G2 : Hid (tWide (valO (some t2)) (tvQ (-(valO (some t))) a3) (tvQ (-(valO (some t))) b3) = true) := G20
      clear G0 G20
      have H := Lib.hid (Hp.start hT)
      clear hT
      go_enter Tryd.func6, Tryd.ntmps6
      go_wp2_with (first
          | go_skip)
      refine ((CP.out _ H.out.bel H.out.tb)).mono ?_
      rintro _ _ ⟨rfl, hb⟩
      replace H := Lib.hid (H.out.go hb)
      clear hb
      go_wp2_with (first
          | go_skip)
      refine ((CG.out _ H.out.bel H.out.tb)).mono ?_
      rintro _ _ ⟨rfl, hb⟩
      replace H := Lib.hid (H.out.go hb)
      clear hb
      go_wp2_with (first
          | go_skip)
      refine ((CH.out _ H.out.bel H.out.tb)).mono ?_
      rintro _ _ ⟨rfl, hb⟩
      replace H := Lib.hid (H.out.go hb)
      clear hb
      go_wp2_with (first
          | ((with_reducible refine isLoad ?_); refine ldA H ?_)
          | ((with_reducible refine isStore ?_); refine stA H ?_; clear H; intro _ H)
          | ((with_reducible refine isAlloc ?_); refine alA H ?_; clear H; intro _ _ H))
      refine (Carry_wide2 (i := 2) (j := 1) (k := 2) (some a1) (some b1) a1 b1 (some a2) (some b2) a2 b2 (some a3) (some b3) a3 b3 (some x) (some y) (some t) (some x2) (some y2) (some t2) _ (by decide) A1 A2 A3 Zx Zy Zt Zx2 Zy2 Zt2 G G2 H.out.tb).mono ?_
      rintro _ _ ⟨rfl, hb⟩
      replace H := Lib.hid (H.out.go hb)
      clear hb
      go_wp2_with (first
          | ((with_reducible refine isStore ?_); refine stA H ?_; clear H; intro _ H)
          | ((with_reducible refine isAlloc ?_); refine alA H ?_; clear H; intro _ _ H))
      refine (carried_any _ H.out.tb).mono ?_
      rintro _ _ ⟨rfl, hb⟩
      replace H := Lib.hid (H.out.go hb)
      clear hb
      go_wp2_with (first
          | go_skip)
      refine (carried_any _ H.out.tb).mono ?_
      rintro _ _ ⟨rfl, hb⟩
      replace H := Lib.hid (H.out.go hb)
      clear hb
      go_wp2_with (first
          | go_skip)
      go_ret
      exact ⟨rfl, H.out.bel⟩
    | false =>
      have G2 : Hid (tWide (valO (some t2)) (tvQ (-(valO (some t))) a3) (tvQ (-(valO (some t))) b3) = false) := G20
      have hok := carry_back_ok (g := (⟨x, y, t⟩ : Fr)) (h := (⟨x2, y2, t2⟩ : Fr)) (p := (⟨a1, b1, a2, b2, a3, b3⟩ : Ps)) G0 G20
      have hlaw := carry_back (g := (⟨x, y, t⟩ : Fr)) (h := (⟨x2, y2, t2⟩ : Fr)) (p := (⟨a1, b1, a2, b2, a3, b3⟩ : Ps)) P.out.l1 P.out.l2 G0 G20
      have pq := ((P.out.pok (by decide)).grip (j := 1) (g := (⟨x, y, t⟩ : Fr)) ⟨Zx, Zy, Zt⟩ G0 (by decide) (by decide)).put (j := 1) (g := (⟨x2, y2, t2⟩ : Fr)) ⟨Zx2, Zy2, Zt2⟩ G20 (by decide) (by decide)
      have pr := (pq.grip (j := 1) (g := (⟨x2, y2, t2⟩ : Fr)) ⟨Zx2, Zy2, Zt2⟩ hok.1 (by decide) (by decide)).put (j := 1) (g := (⟨x, y, t⟩ : Fr)) ⟨Zx, Zy, Zt⟩ hok.2 (by decide) (by decide)
      obtain ⟨⟨c1, d1, c2, d2, c3, d3⟩, EQ⟩ : ∃ z : Ps, Hid (putP (⟨x2, y2, t2⟩ : Fr) (gripP (⟨x, y, t⟩ : Fr) (⟨a1, b1, a2, b2, a3, b3⟩ : Ps)) = z) := ⟨_, rfl⟩
      have Ec1 : Hid ((putP (⟨x2, y2, t2⟩ : Fr) (gripP (⟨x, y, t⟩ : Fr) (⟨a1, b1, a2, b2, a3, b3⟩ : Ps))).a1 = c1) := congrArg Ps.a1 EQ.out
      have Ed1 : Hid ((putP (⟨x2, y2, t2⟩ : Fr) (gripP (⟨x, y, t⟩ : Fr) (⟨a1, b1, a2, b2, a3, b3⟩ : Ps))).b1 = d1) := congrArg Ps.b1 EQ.out
      have Ec2 : Hid ((putP (⟨x2, y2, t2⟩ : Fr) (gripP (⟨x, y, t⟩ : Fr) (⟨a1, b1, a2, b2, a3, b3⟩ : Ps))).a2 = c2) := congrArg Ps.a2 EQ.out
      have Ed2 : Hid ((putP (⟨x2, y2, t2⟩ : Fr) (gripP (⟨x, y, t⟩ : Fr) (⟨a1, b1, a2, b2, a3, b3⟩ : Ps))).b2 = d2) := congrArg Ps.b2 EQ.out
      have Ec3 : Hid ((putP (⟨x2, y2, t2⟩ : Fr) (gripP (⟨x, y, t⟩ : Fr) (⟨a1, b1, a2, b2, a3, b3⟩ : Ps))).a3 = c3) := congrArg Ps.a3 EQ.out
      have Ed3 : Hid ((putP (⟨x2, y2, t2⟩ : Fr) (gripP (⟨x, y, t⟩ : Fr) (⟨a1, b1, a2, b2, a3, b3⟩ : Ps))).b3 = d3) := congrArg Ps.b3 EQ.out
      rw [EQ.out] at pq pr hlaw
      have G3 : Hid (tWide (-(valO (some t2))) c3 d3 = false) := by have h := hok.1; rw [show tvQ t2 (tvQ (-t) a3) = c3 from Ec3.out, show tvQ t2 (tvQ (-t) b3) = d3 from Ed3.out] at h; exact h
      have G4 : Hid (tWide (valO (some t)) (tvQ (-(valO (some t2))) c3) (tvQ (-(valO (some t2))) d3) = false) := by have h := hok.2; rw [show tvQ t2 (tvQ (-t) a3) = c3 from Ec3.out, show tvQ t2 (tvQ (-t) b3) = d3 from Ed3.out] at h; exact h
      obtain ⟨⟨r1, s1, r2, s2, r3, s3⟩, ER⟩ : ∃ z : Ps, Hid (putP (⟨x, y, t⟩ : Fr) (gripP (⟨x2, y2, t2⟩ : Fr) (⟨c1, d1, c2, d2, c3, d3⟩ : Ps)) = z) := ⟨_, rfl⟩
      have Er1 : Hid ((putP (⟨x, y, t⟩ : Fr) (gripP (⟨x2, y2, t2⟩ : Fr) (⟨c1, d1, c2, d2, c3, d3⟩ : Ps))).a1 = r1) := congrArg Ps.a1 ER.out
      have Es1 : Hid ((putP (⟨x, y, t⟩ : Fr) (gripP (⟨x2, y2, t2⟩ : Fr) (⟨c1, d1, c2, d2, c3, d3⟩ : Ps))).b1 = s1) := congrArg Ps.b1 ER.out
      have Er2 : Hid ((putP (⟨x, y, t⟩ : Fr) (gripP (⟨x2, y2, t2⟩ : Fr) (⟨c1, d1, c2, d2, c3, d3⟩ : Ps))).a2 = r2) := congrArg Ps.a2 ER.out
      have Es2 : Hid ((putP (⟨x, y, t⟩ : Fr) (gripP (⟨x2, y2, t2⟩ : Fr) (⟨c1, d1, c2, d2, c3, d3⟩ : Ps))).b2 = s2) := congrArg Ps.b2 ER.out
      have Er3 : Hid ((putP (⟨x, y, t⟩ : Fr) (gripP (⟨x2, y2, t2⟩ : Fr) (⟨c1, d1, c2, d2, c3, d3⟩ : Ps))).a3 = r3) := congrArg Ps.a3 ER.out
      have Es3 : Hid ((putP (⟨x, y, t⟩ : Fr) (gripP (⟨x2, y2, t2⟩ : Fr) (⟨c1, d1, c2, d2, c3, d3⟩ : Ps))).b3 = s3) := congrArg Ps.b3 ER.out
      rw [ER.out] at pr hlaw
      have B1 : Hid (Spn 93 (some c1) (some d1) c1 d1) := pq.s1.mono (by decide)
      have B2 : Hid (Spn 93 (some c2) (some d2) c2 d2) := pq.s2.mono (by decide)
      have B3 : Hid (Spn 93 (some c3) (some d3) c3 d3) := pq.s3.mono (by decide)
      have R : Hid (PoseF 600 r1 s1 r2 s2 r3 s3) := pr.pose (by decide) (by decide)
      have P6 : Hid (PoseF 600 a1 b1 a2 b2 a3 b3) := P.out.mono (by decide)
      have GI : Hid (inF a1 b1 a2 b2 a3 b3 r1 s1 r2 s2 r3 s3 = true) := Ps.sub_iff.2 hlaw.1
      have T1 : Hid (cmpQ (valO (some a3)) (valO (some r3)) = 0) := cmpQ_eq.2 hlaw.2.1.symm
      have T2 : Hid (cmpQ (valO (some b3)) (valO (some s3)) = 0) := cmpQ_eq.2 hlaw.2.2.symm
      have Sa : Hid (SmO (some a3)) := A3.out.sa
      have Sb : Hid (SmO (some b3)) := A3.out.sb
      have Sr : Hid (SmO (some r3)) := Sz.o R.out.za3 (by decide)
      have Ss : Hid (SmO (some s3)) := Sz.o R.out.zb3 (by decide)
      clear G0 G20 hok hlaw pq pr
      have H := Lib.hid (Hp.start hT)
      clear hT
      go_enter Tryd.func6, Tryd.ntmps6
      go_wp2_with (first
          | go_skip)
      refine ((CP.out _ H.out.bel H.out.tb)).mono ?_
      rintro _ _ ⟨rfl, hb⟩
      replace H := Lib.hid (H.out.go hb)
      clear hb
      go_wp2_with (first
          | go_skip)
      refine ((CG.out _ H.out.bel H.out.tb)).mono ?_
      rintro _ _ ⟨rfl, hb⟩
      replace H := Lib.hid (H.out.go hb)
      clear hb
      go_wp2_with (first
          | go_skip)
      refine ((CH.out _ H.out.bel H.out.tb)).mono ?_
      rintro _ _ ⟨rfl, hb⟩
      replace H := Lib.hid (H.out.go hb)
      clear hb
      go_wp2_with (first
          | ((with_reducible refine isLoad ?_); refine ldA H ?_)
          | ((with_reducible refine isStore ?_); refine stA H ?_; clear H; intro _ H)
          | ((with_reducible refine isAlloc ?_); refine alA H ?_; clear H; intro _ _ H))
      refine (Carry_ok (i := 2) (j := 1) (k := 2) (some a1) (some b1) a1 b1 (some a2) (some b2) a2 b2 (some a3) (some b3) a3 b3 (some x) (some y) (some t) (some x2) (some y2) (some t2) c3 d3 c1 d1 c2 d2 _ (by decide) A1 A2 A3 Zx Zy Zt Zx2 Zy2 Zt2 G G2 Ec3 Ed3 Ec1 Ed1 Ec2 Ed2 H.out.tb).mono ?_
      rintro _ _ ⟨rfl, hb⟩
      replace H := Lib.hid (H.out.go hb)
      clear hb
      go_wp2_with (first
          | ((with_reducible refine isStore ?_); refine stA H ?_; clear H; intro _ H)
          | ((with_reducible refine isAlloc ?_); refine alA H ?_; clear H; intro _ _ H))
      refine (carried_any _ H.out.tb).mono ?_
      rintro _ _ ⟨rfl, hb⟩
      replace H := Lib.hid (H.out.go hb)
      clear hb
      go_wp2_with (first
          | ((with_reducible refine isLoad ?_); refine ldA H ?_))
      refine (Carry_ok (i := 93) (j := 1) (k := 93) (some c1) (some d1) c1 d1 (some c2) (some d2) c2 d2 (some c3) (some d3) c3 d3 (some x2) (some y2) (some t2) (some x) (some y) (some t) r3 s3 r1 s1 r2 s2 _ (by decide) B1 B2 B3 Zx2 Zy2 Zt2 Zx Zy Zt G3 G4 Er3 Es3 Er1 Es1 Er2 Es2 H.out.tb).mono ?_
      rintro _ _ ⟨rfl, hb⟩
      replace H := Lib.hid (H.out.go hb)
      clear hb
      go_wp2_with (first
          | ((with_reducible refine isLoad ?_); refine ldA H ?_)
          | ((with_reducible refine isStore ?_); refine stA H ?_; clear H; intro _ H)
          | ((with_reducible refine isAlloc ?_); refine alA H ?_; clear H; intro _ _ H))
      refine (InF_any (k := 600) a1 b1 a2 b2 a3 b3 r1 s1 r2 s2 r3 s3 true _ (by decide) P6.out R.out GI H.out.tb).mono ?_
      rintro _ _ ⟨rfl, hb⟩
      replace H := Lib.hid (H.out.go hb)
      clear hb
      go_wp2_with (first
          | ((with_reducible refine isLoad ?_); refine ldA H ?_))
      refine (RCmp_any (some a3) (some r3) 0 _ Sa Sr T1 H.out.tb).mono ?_
      rintro _ _ ⟨rfl, hb⟩
      replace H := Lib.hid (H.out.go hb)
      clear hb
      go_wp2_with (first
          | ((with_reducible refine isLoad ?_); refine ldA H ?_))
      refine (RCmp_any (some b3) (some s3) 0 _ Sb Ss T2 H.out.tb).mono ?_
      rintro _ _ ⟨rfl, hb⟩
      replace H := Lib.hid (H.out.go hb)
      clear hb
      go_wp2_with (first
          | go_skip)
      go_ret
      exact ⟨rfl, H.out.bel⟩
end Go.Proofs.YtolekonocbeekaaDoor
