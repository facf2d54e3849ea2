/- gantkeep4.CarryLooks, the walk. Printed by gen/lawr6b.py. -/
import Derived.Test.YtolekonocbeekaaDoorMk18
import Derived.Test.YtolekonocbeekaaDoorMk17
namespace Go.Proofs.YtolekonocbeekaaDoor
open Go.RowKit
set_option linter.unusedVariables false
set_option maxRecDepth 100000

theorem ofQ_bd {n : Int} {d : Nat} (hd : 0 < d) (h1 : -40 * (d : Int) ≤ n) (h2 : n ≤ 40 * (d : Int)) : -40 ≤ ofQ n d ∧ ofQ n d ≤ 40 := by
  rw [ofQ_div]
  have p : (0 : Rat) < ((d : Int) : Rat) := by exact_mod_cast hd
  have e : (n : Rat) / ((d : Int) : Rat) * ((d : Int) : Rat) = (n : Rat) := Rat.div_mul_cancel (by grind)
  have g1 : ((-40 : Int) : Rat) * ((d : Int) : Rat) ≤ (n : Rat) := by exact_mod_cast h1
  have g2 : (n : Rat) ≤ ((40 : Int) : Rat) * ((d : Int) : Rat) := by exact_mod_cast h2
  rw [show ((-40 : Int) : Rat) = -40 from rfl] at g1
  rw [show ((40 : Int) : Rat) = 40 from rfl] at g2
  have a := pos_of_mul (x := (n : Rat) / ((d : Int) : Rat) + 40) p (by grind)
  have b := pos_of_mul (x := 40 - (n : Rat) / ((d : Int) : Rat)) p (by grind)
  constructor <;> grind
theorem ofQ_one {n : Int} (h : n ≤ 16) : ofQ n 16 ≤ 1 := by
  rw [ofQ_div]
  have e4 : (((16 : Nat) : Int) : Rat) = 16 := rfl
  rw [e4]
  have : (n : Rat) ≤ 16 := by exact_mod_cast h
  grind
theorem ofQ_one8 : ofQ 1 8 ≤ 1 := by decide +kernel
theorem mx_r {a b : Rat} (h : a ≤ b) : mx a b = b := by unfold mx; split <;> grind
theorem mn_r {a b : Rat} (h : b ≤ a) : mn a b = b := by unfold mn; split <;> grind
theorem lo_bd (S : Sd) (m : Int) (h1 : 1 ≤ m) (h2 : m ≤ 100) : -40 ≤ S.lo m ∧ S.lo m ≤ 40 := by
  have := S.nx_bd (2 * m + 1) (by omega)
  exact ofQ_bd (by decide) (by omega) (by omega)
theorem pose_exb (S : Sd) (w : World) (hS : S.ok w) : ∃ a1 b1 a2 b2 a3 b3 : Rat, PoseF 2 a1 b1 a2 b2 a3 b3 ∧ ((-40 ≤ a1 ∧ a1 ≤ 40) ∧ (-40 ≤ a2 ∧ a2 ≤ 40) ∧ (-40 ≤ a3 ∧ a3 ≤ 40)) ∧ ∀ W, Below w.heap.size w W → Tb W →
    Calls Tryd.prog 10 #[.slice S.A S.xs.length S.c] W fun e w' => e = .returned (.agg #[.bool (sgO (some a1)), .string (nuO (some a1)), .string (deO (some a1)), .bool (sgO (some b1)), .string (nuO (some b1)), .string (deO (some b1)), .bool (sgO (some a2)), .string (nuO (some a2)), .string (deO (some a2)), .bool (sgO (some b2)), .string (nuO (some b2)), .string (deO (some b2)), .bool (sgO (some a3)), .string (nuO (some a3)), .string (deO (some a3)), .bool (sgO (some b3)), .string (nuO (some b3)), .string (deO (some b3))]) ∧ Below W.heap.size W w' :=
  ⟨S.lo 20, S.hi 20, S.s2.lo 20, S.s2.hi 20, S.s4.lo 4, S.s4.hi 4, ⟨lo_hi _ _, lo_hi _ _, lo_hi _ _, sz_lo _ _ (by decide) (by decide), sz_hi _ _ (by decide) (by decide), sz_lo _ _ (by decide) (by decide), sz_hi _ _ (by decide) (by decide), sz_lo _ _ (by decide) (by decide), sz_hi _ _ (by decide) (by decide)⟩,
    ⟨lo_bd _ _ (by decide) (by decide), lo_bd _ _ (by decide) (by decide), lo_bd _ _ (by decide) (by decide)⟩, fun W hb hT => Pose_any S _ _ _ _ _ _ W (hS.below hb) hT rfl rfl rfl rfl rfl rfl⟩
theorem frame_exb (S : Sd) (w : World) (hS : S.ok w) : ∃ x y t : Rat, Sz 1 x ∧ Sz 1 y ∧ Sz 1 t ∧ ((-40 ≤ x ∧ x ≤ 40) ∧ (-40 ≤ y ∧ y ≤ 40) ∧ (-40 ≤ t ∧ t ≤ 40)) ∧ ∀ W, Below w.heap.size w W → Tb W →
    Calls Tryd.prog 31 #[.slice S.A S.xs.length S.c] W fun e w' => e = .returned (.agg #[.bool (sgO (some x)), .string (nuO (some x)), .string (deO (some x)), .bool (sgO (some y)), .string (nuO (some y)), .string (deO (some y)), .bool false, .bool (sgO (some t)), .string (nuO (some t)), .string (deO (some t))]) ∧ Below W.heap.size W w' := by
  have n1 := S.nx_bd 33 (by decide)
  have n2 := S.sn.nx_bd 33 (by decide)
  have n3 := S.s2.nx_bd 9 (by decide)
  exact ⟨ofQ (S.nx 33 - 16) 2, ofQ (S.sn.nx 33 - 16) 2, ofQ (S.s2.nx 9 - 4) 4, ofQ_sz _ _ _ (by omega) (by decide) (by decide), ofQ_sz _ _ _ (by omega) (by decide) (by decide), ofQ_sz _ _ _ (by omega) (by decide) (by decide), ⟨ofQ_bd (by decide) (by omega) (by omega), ofQ_bd (by decide) (by omega) (by omega), ofQ_bd (by decide) (by omega) (by omega)⟩,
    fun W hb hT => Frame_any S _ _ _ W (hS.below hb) hT rfl rfl rfl⟩
set_option maxHeartbeats 8000000 in
theorem carryLooks_core (S1 : Sd) (S2 : Sd) (b : Int) (hb1 : -9223372036854775808 ≤ b) (hb2 : b ≤ 9223372036854775807) (w : World) (hS1 : S1.ok w) (hS2 : S2.ok w) (hT : Tb w) :
    Calls Tryd.prog 8 #[.slice S1.A S1.xs.length S1.c, .slice S2.A S2.xs.length S2.c, .int .i64 b] w fun e w' => e = .returned (.bool true) ∧ Below w.heap.size w w' := by
  obtain ⟨a1, b1, a2, b2, a3, b3, P0, BA, CP0⟩ := pose_exb S1 w hS1
  have CP := Lib.hid CP0
  clear CP0 hS1
  obtain ⟨x, y, t, Zx0, Zy0, Zt0, BF, CG0⟩ := frame_exb S2 w hS2
  have CG := Lib.hid CG0
  have Zx : Hid (Sz 1 x) := Zx0
  have Zy : Hid (Sz 1 y) := Zy0
  have Zt : Hid (Sz 1 t) := Zt0
  clear CG0 Zx0 Zy0 Zt0 hS2
  have n1 := mod_bd b (show (0 : Int) < 9 by decide)
  obtain ⟨m, M⟩ : ∃ z : Int, Hid (b % 9 = z) := ⟨_, rfl⟩
  rw [M.out] at n1
  obtain ⟨N1a, N1b⟩ := n1
  have hw : IntKind.i64.wrap (1 + m) = 1 + m := IntWalk.i64_in _ (by omega)
  obtain ⟨wi, Ewi⟩ : ∃ z : Rat, Hid (ofQ (1 + m) 16 = z) := ⟨_, rfl⟩
  have Zwi : Hid (Sz 1 wi) := by rw [← Ewi.out]; exact ofQ_sz _ _ _ (by omega) (by decide) (by decide)
  have Hwi : Hid (0 ≤ wi) := by rw [← Ewi.out]; exact ofQ_nn (by omega) (by decide)
  have Bwi : wi ≤ 1 := by rw [← Ewi.out]; exact ofQ_one (by omega)
  obtain ⟨ei, Eei⟩ : ∃ z : Rat, Hid (ofQ 1 8 = z) := ⟨_, rfl⟩
  have Zei : Hid (Sz 1 ei) := by rw [← Eei.out]; exact ofQ_sz _ _ _ (by decide) (by decide) (by decide)
  have Hei : Hid (0 ≤ ei) := by rw [← Eei.out]; exact ofQ_nn (by decide) (by decide)
  have Bei : ei ≤ 1 := by rw [← Eei.out]; exact ofQ_one8
  obtain ⟨h, Eh⟩ : ∃ z : Rat, Hid (((100 : Int) : Rat) = z) := ⟨_, rfl⟩
  have Zh : Hid (Sz 3 h) := szEq Eh (Sz.int 100 (by decide))
  have Bh : h = 100 := Eh.out.symm
  have Hh : Hid (0 ≤ h) := by rw [Bh]; show (0 : Rat) ≤ 100; decide
  obtain ⟨c2_, E2⟩ : ∃ z : Rat, Hid (((2 : Int) : Rat) = z) := ⟨_, rfl⟩
  obtain ⟨c3_, E3⟩ : ∃ z : Rat, Hid (((3 : Int) : Rat) = z) := ⟨_, rfl⟩
  have Z2_ : Hid (Sz 3 c2_) := szEq E2 (Sz.int 2 (by decide))
  have Z3_ : Hid (Sz 3 c3_) := szEq E3 (Sz.int 3 (by decide))
  have B2 : c2_ = 2 := E2.out.symm
  have B3 : c3_ = 3 := E3.out.symm
  have S2_ : Hid (SmO (some c2_)) := Sz.o Z2_ (by decide)
  have S3_ : Hid (SmO (some c3_)) := Sz.o Z3_ (by decide)
  have Sx : Hid (SmO (some x)) := Sz.o Zx (by decide)
  have A1 : Hid (Spn 2 (some a1) (some b1) a1 b1) := (P0.pok (by decide)).s1
  have A2 : Hid (Spn 2 (some a2) (some b2) a2 b2) := (P0.pok (by decide)).s2
  have A3 : Hid (Spn 2 (some a3) (some b3) a3 b3) := (P0.pok (by decide)).s3
  obtain ⟨p1, Ep1⟩ : ∃ z : Rat, Hid (a1 - mx (valO (some h)) ((0 : Int) : Rat) = z) := ⟨_, rfl⟩
  obtain ⟨q1, Eq1⟩ : ∃ z : Rat, Hid (b1 + mx (valO (some h)) ((0 : Int) : Rat) = z) := ⟨_, rfl⟩
  have Bp1 : p1 = a1 - 100 := by rw [← Ep1.out, show valO (some h) = h from rfl, mx_zero Hh, Bh]
  have Bq1 : q1 = b1 + 100 := by rw [← Eq1.out, show valO (some h) = h from rfl, mx_zero Hh, Bh]
  have Zp1 : Hid (Sz 6 p1) := by rw [← Ep1.out, show valO (some h) = h from rfl, mx_zero Hh]; exact Sz.sub P0.za1 Zh
  have Zq1 : Hid (Sz 6 q1) := by rw [← Eq1.out, show valO (some h) = h from rfl, mx_zero Hh]; exact Sz.add P0.zb1 Zh
  have Lp1 := P0.l1
  obtain ⟨p2, Ep2⟩ : ∃ z : Rat, Hid (a2 - mx (valO (some h)) ((0 : Int) : Rat) = z) := ⟨_, rfl⟩
  obtain ⟨q2, Eq2⟩ : ∃ z : Rat, Hid (b2 + mx (valO (some h)) ((0 : Int) : Rat) = z) := ⟨_, rfl⟩
  have Bp2 : p2 = a2 - 100 := by rw [← Ep2.out, show valO (some h) = h from rfl, mx_zero Hh, Bh]
  have Bq2 : q2 = b2 + 100 := by rw [← Eq2.out, show valO (some h) = h from rfl, mx_zero Hh, Bh]
  have Zp2 : Hid (Sz 6 p2) := by rw [← Ep2.out, show valO (some h) = h from rfl, mx_zero Hh]; exact Sz.sub P0.za2 Zh
  have Zq2 : Hid (Sz 6 q2) := by rw [← Eq2.out, show valO (some h) = h from rfl, mx_zero Hh]; exact Sz.add P0.zb2 Zh
  have Lp2 := P0.l2
  obtain ⟨p3, Ep3⟩ : ∃ z : Rat, Hid (a3 - mx (valO (some h)) ((0 : Int) : Rat) = z) := ⟨_, rfl⟩
  obtain ⟨q3, Eq3⟩ : ∃ z : Rat, Hid (b3 + mx (valO (some h)) ((0 : Int) : Rat) = z) := ⟨_, rfl⟩
  have Bp3 : p3 = a3 - 100 := by rw [← Ep3.out, show valO (some h) = h from rfl, mx_zero Hh, Bh]
  have Bq3 : q3 = b3 + 100 := by rw [← Eq3.out, show valO (some h) = h from rfl, mx_zero Hh, Bh]
  have Zp3 : Hid (Sz 6 p3) := by rw [← Ep3.out, show valO (some h) = h from rfl, mx_zero Hh]; exact Sz.sub P0.za3 Zh
  have Zq3 : Hid (Sz 6 q3) := by rw [← Eq3.out, show valO (some h) = h from rfl, mx_zero Hh]; exact Sz.add P0.zb3 Zh
  have Lp3 := P0.l3
  obtain ⟨BA1, BA2, BA3⟩ := BA
  obtain ⟨BF1, BF2, BF3⟩ := BF
  have PP : Hid (PoseF 20 p1 q1 p2 q2 p3 q3) := ⟨by grind, by grind, by grind, Zp1.out.mono (by decide), Zq1.out.mono (by decide), Zp2.out.mono (by decide), Zq2.out.mono (by decide), Zp3.out.mono (by decide), Zq3.out.mono (by decide)⟩
  obtain ⟨u1, Eu1⟩ : ∃ z : Rat, Hid (x - wi = z) := ⟨_, rfl⟩
  obtain ⟨v1, Ev1⟩ : ∃ z : Rat, Hid (x + wi = z) := ⟨_, rfl⟩
  have Fu1 := Eu1.out
  have Fv1 := Ev1.out
  have Gu1 : Hid (mx p1 (x - wi) = u1) := by rw [Eu1.out]; exact mx_r (by grind)
  have Gv1 : Hid (mn q1 (x + wi) = v1) := by rw [Ev1.out]; exact mn_r (by grind)
  have Zu1 : Hid (Sz 4 u1) := szEq Eu1 ((Sz.sub Zx Zwi).mono (by decide))
  have Zv1 : Hid (Sz 4 v1) := szEq Ev1 ((Sz.add Zx Zwi).mono (by decide))
  have Wu1 : Hid (valO (some x) - mx (valO (some wi)) ((0 : Int) : Rat) = u1) := by rw [← Eu1.out, show valO (some wi) = wi from rfl, mx_zero Hwi]; rfl
  have Wv1 : Hid (valO (some x) + mx (valO (some wi)) ((0 : Int) : Rat) = v1) := by rw [← Ev1.out, show valO (some wi) = wi from rfl, mx_zero Hwi]; rfl
  obtain ⟨u2, Eu2⟩ : ∃ z : Rat, Hid (y - wi = z) := ⟨_, rfl⟩
  obtain ⟨v2, Ev2⟩ : ∃ z : Rat, Hid (y + wi = z) := ⟨_, rfl⟩
  have Fu2 := Eu2.out
  have Fv2 := Ev2.out
  have Gu2 : Hid (mx p2 (y - wi) = u2) := by rw [Eu2.out]; exact mx_r (by grind)
  have Gv2 : Hid (mn q2 (y + wi) = v2) := by rw [Ev2.out]; exact mn_r (by grind)
  have Zu2 : Hid (Sz 4 u2) := szEq Eu2 ((Sz.sub Zy Zwi).mono (by decide))
  have Zv2 : Hid (Sz 4 v2) := szEq Ev2 ((Sz.add Zy Zwi).mono (by decide))
  have Wu2 : Hid (valO (some y) - mx (valO (some wi)) ((0 : Int) : Rat) = u2) := by rw [← Eu2.out, show valO (some wi) = wi from rfl, mx_zero Hwi]; rfl
  have Wv2 : Hid (valO (some y) + mx (valO (some wi)) ((0 : Int) : Rat) = v2) := by rw [← Ev2.out, show valO (some wi) = wi from rfl, mx_zero Hwi]; rfl
  obtain ⟨u3, Eu3⟩ : ∃ z : Rat, Hid (t - ei = z) := ⟨_, rfl⟩
  obtain ⟨v3, Ev3⟩ : ∃ z : Rat, Hid (t + ei = z) := ⟨_, rfl⟩
  have Fu3 := Eu3.out
  have Fv3 := Ev3.out
  have Gu3 : Hid (mx p3 (t - ei) = u3) := by rw [Eu3.out]; exact mx_r (by grind)
  have Gv3 : Hid (mn q3 (t + ei) = v3) := by rw [Ev3.out]; exact mn_r (by grind)
  have Zu3 : Hid (Sz 4 u3) := szEq Eu3 ((Sz.sub Zt Zei).mono (by decide))
  have Zv3 : Hid (Sz 4 v3) := szEq Ev3 ((Sz.add Zt Zei).mono (by decide))
  have HWI := Hwi.out
  have HEI := Hei.out
  have U : Hid (PoseF 22 u1 v1 u2 v2 u3 v3) := ⟨by grind, by grind, by grind, Zu1.out.mono (by decide), Zv1.out.mono (by decide), Zu2.out.mono (by decide), Zv2.out.mono (by decide), Zu3.out.mono (by decide), Zv3.out.mono (by decide)⟩
  have LW : Hid (mx (valO (some wi)) ((0 : Int) : Rat) = wi) := by rw [show valO (some wi) = wi from rfl]; exact mx_zero Hwi
  obtain ⟨g1, Eg1⟩ : ∃ z : Rat, Hid (x + c2_ = z) := ⟨_, rfl⟩
  obtain ⟨g2, Eg2⟩ : ∃ z : Rat, Hid (x + c3_ = z) := ⟨_, rfl⟩
  have Fg1 := Eg1.out
  have Fg2 := Eg2.out
  have FA : Hid (PoseF 20 g1 g2 p2 q2 p3 q3) := ⟨by grind, PP.out.l2, PP.out.l3, szEq Eg1 ((Sz.add Zx Z2_).mono (by decide)), szEq Eg2 ((Sz.add Zx Z3_).mono (by decide)), PP.out.za2, PP.out.zb2, PP.out.za3, PP.out.zb3⟩
  have N1 : Hid (decide (u1 ≤ v1 ∧ u1 ≤ v1) = true) := decide_eq_true ⟨U.out.l1, U.out.l1⟩
  have N2 : Hid (decide (u2 ≤ v2 ∧ u2 ≤ v2) = true) := decide_eq_true ⟨U.out.l2, U.out.l2⟩
  have NI : Hid (inF u1 v1 u2 v2 u3 v3 u1 v1 u2 v2 u3 v3 = true) := decide_eq_true ⟨⟨Rat.le_refl, Rat.le_refl⟩, ⟨Rat.le_refl, Rat.le_refl⟩, ⟨Rat.le_refl, Rat.le_refl⟩⟩
  have N3 : Hid (decide (p1 ≤ v1 ∧ u1 ≤ q1) = true) := decide_eq_true (by grind)
  have N4 : Hid (decide (p2 ≤ v2 ∧ u2 ≤ q2) = true) := decide_eq_true (by grind)
  have NW : Hid (inF p1 q1 p2 q2 p3 q3 u1 v1 u2 v2 p3 q3 = false) := decide_eq_false (fun hn => by have := hn.1.1; grind)
  have N5 : Hid (decide (g1 ≤ v1 ∧ u1 ≤ g2) = false) := decide_eq_false (fun hn => by have := hn.1; grind)
  have P := Lib.hid P0
  have Zxo : Hid (SzO 22 (some x)) := Zx.out.mono (by decide)
  have Zyo : Hid (SzO 22 (some y)) := Zy.out.mono (by decide)
  have Zwo : Hid (SzO 22 (some wi)) := Zwi.out.mono (by decide)
  have Zxp : Hid (SzO 20 (some x)) := Zx.out.mono (by decide)
  have Zyp : Hid (SzO 20 (some y)) := Zy.out.mono (by decide)
  have Zwp : Hid (SzO 20 (some wi)) := Zwi.out.mono (by decide)
  have Zx20 : Hid (Sz 20 x) := Zxp
  have Zy20 : Hid (Sz 20 y) := Zyp
  have Zt20 : Hid (Sz 20 t) := Zt.out.mono (by decide)
  clear P0 BA1 BA2 BA3 BF1 BF2 BF3 Bwi Bei Bh B2 B3 Bp1 Bp2 Bp3 Bq1 Bq2 Bq3 Lp1 Lp2 Lp3 Fu1 Fu2 Fu3 Fv1 Fv2 Fv3 HWI HEI Fg1 Fg2
  have H := Lib.hid (Hp.start hT)
  clear hT
  go_enter Tryd.func8, Tryd.ntmps8
  go_wp2_with (first
      | go_skip)
  refine ((CG.out _ H.out.bel H.out.tb)).mono ?_
  rintro _ _ ⟨rfl, hb⟩
  replace H := Lib.hid (H.out.go hb)
  clear hb
  go_wp2_with (first
      | ((with_reducible refine isStore ?_); refine stA H ?_; clear H; intro _ H)
      | ((with_reducible refine isAlloc ?_); refine alA H ?_; clear H; intro _ _ H))
  refine wp_region_F1 6 H (by kernel_rfl) (by kernel_rfl) rfl (by simp [Allocs, go_sem]; intro _ _; rfl) ?_
  simp only [List.take_succ_cons, List.take_zero, List.drop_succ_cons, List.drop_zero]
  repeat (first
      | ((with_reducible refine kLoad ?_); refine kldA H ?_)
      | ((fail_if_success (with_reducible refine kCall ?_)); (with_reducible refine kCons ?_); refine wpK_step (fun K hK => ?_); go_simp; refine hK _ ?_; clear hK K))
  refine wpK_step (fun K hK => ?_)
  go_simp
  apply Exists.intro
  refine ⟨fun sx => ?_, hK _ ?_⟩
  · go_at_call 18
    exact belowQ_any b 9 m _ (by decide) hb1 hb2 (by decide) M
  clear hK K
  repeat (first
      | ((fail_if_success (with_reducible refine kCall ?_)); (with_reducible refine kCons ?_); refine wpK_step (fun K hK => ?_); go_simp; refine hK _ ?_; clear hK K))
  refine wpK_step (fun K hK => ?_)
  go_simp
  apply Exists.intro
  refine ⟨fun sx => ?_, hK _ ?_⟩
  · go_at_call 17
    exact ofQ_any (1 + m) 16 wi _ (by omega) (by omega) (by decide) (by decide) Ewi
  clear hK K
  repeat (first
      | ((fail_if_success (with_reducible refine kCall ?_)); (with_reducible refine kCons ?_); refine wpK_step (fun K hK => ?_); go_simp; refine hK _ ?_; clear hK K))
  refine wpKeep_nil ?_
  clear H
  intro _ _ H
  (simp only [Act.put, List.setIfInBounds_toArray, List.set_cons_succ, List.set_cons_zero])
  go_wp2_with (first
      | ((with_reducible refine isStore ?_); refine stA H ?_; clear H; intro _ H))
  refine ((CP.out _ H.out.bel H.out.tb)).mono ?_
  rintro _ _ ⟨rfl, hb⟩
  replace H := Lib.hid (H.out.go hb)
  clear hb
  go_wp2_with (first
      | go_skip)
  refine (ROf_any 100 h _ (by decide) (by decide) Eh H.out.tb).mono ?_
  rintro _ _ ⟨rfl, hb⟩
  replace H := Lib.hid (H.out.go hb)
  clear hb
  go_wp2_with (first
      | go_skip)
  refine (ROf_any 100 h _ (by decide) (by decide) Eh H.out.tb).mono ?_
  rintro _ _ ⟨rfl, hb⟩
  replace H := Lib.hid (H.out.go hb)
  clear hb
  go_wp2_with (first
      | go_skip)
  refine (Widen_any (j := 2) (i := 2) (m := 3) (some a1) (some b1) a1 b1 (some a2) (some b2) a2 b2 (some a3) (some b3) a3 b3 (some h) (some h) p1 q1 p2 q2 p3 q3 _ (by decide) A1 A2 A3 Zh Zh Ep1 Eq1 Ep2 Eq2 Ep3 Eq3 H.out.tb).mono ?_
  rintro _ _ ⟨rfl, hb⟩
  replace H := Lib.hid (H.out.go hb)
  clear hb
  go_wp2_with (first
      | ((with_reducible refine isStore ?_); refine stA H ?_; clear H; intro _ H)
      | ((with_reducible refine isAlloc ?_); refine alA H ?_; clear H; intro _ _ H))
  refine wp_region_G (vs := [.bool (sgO (some u1)), .string (nuO (some u1)), .string (deO (some u1)), .bool (sgO (some v1)), .string (nuO (some v1)), .string (deO (some v1)), .bool (sgO (some u2)), .string (nuO (some u2)), .string (deO (some u2)), .bool (sgO (some v2)), .string (nuO (some v2)), .string (deO (some v2)), .bool (sgO (some u3)), .string (nuO (some u3)), .string (deO (some u3)), .bool (sgO (some v3)), .string (nuO (some v3)), .string (deO (some v3))]) 9 H (by kernel_rfl) (by kernel_rfl) rfl rfl (by simp [Allocs, go_sem]; intro _ _; rfl) (by kernel_rfl) rfl rfl ?_
  simp only [List.take_succ_cons, List.take_zero, List.drop_succ_cons, List.drop_zero]
  repeat (first
      | ((with_reducible refine kLoad ?_); refine kldA H ?_))
  refine wpK_step (fun K hK => ?_)
  go_simp
  apply Exists.intro
  refine ⟨fun sx => ?_, hK _ ?_⟩
  · go_at_call 37
    exact Looks_any (j := 1) ⟨#[]⟩ (some x) (some y) (some t) (some wi) wi _ (by decide) Zwi LW (H.out.tbx sx)
  clear hK K
  refine wpK_step (fun K hK => ?_)
  go_simp
  apply Exists.intro
  refine ⟨fun sx => ?_, hK _ ?_⟩
  · go_at_call 17
    exact ofQ_any 1 8 ei _ (by decide) (by decide) (by decide) (by decide) Eei
  clear hK K
  refine wpK_step (fun K hK => ?_)
  go_simp
  apply Exists.intro
  refine ⟨fun sx => ?_, hK _ ?_⟩
  · go_at_call 21
    exact Look_any (k := 20) (m := 1) p1 q1 p2 q2 p3 q3 x y t wi ei u1 v1 u2 v2 u3 v3 _ (by decide) PP Zx20 Zy20 Zt20 Zwi Zei Hwi Hei Gu1 Gv1 Gu2 Gv2 Gu3 Gv3 U (H.out.tbx sx)
  clear hK K
  repeat (first
      | ((fail_if_success (with_reducible refine kCall ?_)); (with_reducible refine kCons ?_); refine wpK_step (fun K hK => ?_); go_simp; refine hK _ ?_; clear hK K))
  refine wpKeep_nil ?_
  intro _
  (simp only [Act.put, List.setIfInBounds_toArray, List.set_cons_succ, List.set_cons_zero])
  refine ⟨⟨⟨_, _, _, rfl, by (first | exact rRat | exact rSpan | exact rPose | exact rFrame | exact rVec | exact rTurn | exact rBox), rfl, rfl⟩, rfl, rfl, rfl, rfl⟩, ?_⟩
  clear H
  intro _ H
  go_wp2_with (first
      | go_skip)
  refine wp_region_F1 16 H (by kernel_rfl) (by kernel_rfl) rfl (by simp [Allocs, go_sem]; intro _ _; rfl) ?_
  simp only [List.take_succ_cons, List.take_zero, List.drop_succ_cons, List.drop_zero]
  repeat (first
      | ((with_reducible refine kLoad ?_); refine kldA H ?_)
      | ((fail_if_success (with_reducible refine kCall ?_)); (with_reducible refine kCons ?_); refine wpK_step (fun K hK => ?_); go_simp; refine hK _ ?_; clear hK K))
  refine wpK_step (fun K hK => ?_)
  go_simp
  apply Exists.intro
  refine ⟨fun sx => ?_, hK _ ?_⟩
  · go_at_call 35
    exact ROf_any 2 c2_ _ (by decide) (by decide) E2 (H.out.tbx sx)
  clear hK K
  refine wpK_step (fun K hK => ?_)
  go_simp
  apply Exists.intro
  refine ⟨fun sx => ?_, hK _ ?_⟩
  · go_at_call 20
    exact RAdd_any (some x) (some c2_) g1 _ Sx S2_ Eg1 (H.out.tbx sx)
  clear hK K
  repeat (first
      | ((with_reducible refine kLoad ?_); refine kldA H ?_)
      | ((fail_if_success (with_reducible refine kCall ?_)); (with_reducible refine kCons ?_); refine wpK_step (fun K hK => ?_); go_simp; refine hK _ ?_; clear hK K))
  refine wpK_step (fun K hK => ?_)
  go_simp
  apply Exists.intro
  refine ⟨fun sx => ?_, hK _ ?_⟩
  · go_at_call 35
    exact ROf_any 3 c3_ _ (by decide) (by decide) E3 (H.out.tbx sx)
  clear hK K
  refine wpK_step (fun K hK => ?_)
  go_simp
  apply Exists.intro
  refine ⟨fun sx => ?_, hK _ ?_⟩
  · go_at_call 20
    exact RAdd_any (some x) (some c3_) g2 _ Sx S3_ Eg2 (H.out.tbx sx)
  clear hK K
  repeat (first
      | ((with_reducible refine kLoad ?_); refine kldA H ?_)
      | ((fail_if_success (with_reducible refine kCall ?_)); (with_reducible refine kCons ?_); refine wpK_step (fun K hK => ?_); go_simp; refine hK _ ?_; clear hK K))
  refine wpKeep_nil ?_
  clear H
  intro _ _ H
  (simp only [Act.put, List.setIfInBounds_toArray, List.set_cons_succ, List.set_cons_zero])
  go_wp2_with (first
      | ((with_reducible refine isStore ?_); refine stA H ?_; clear H; intro _ H))
  refine (carried_any _ H.out.tb).mono ?_
  rintro _ _ ⟨rfl, hb⟩
  replace H := Lib.hid (H.out.go hb)
  clear hb
  go_wp2_with (first
      | ((with_reducible refine isLoad ?_); refine ldA H ?_))
  refine (Need_ok (k := 22) u1 v1 u2 v2 u3 v3 ⟨#[]⟩ (some x) (some y) (some t) (some wi) u1 v1 u2 v2 _ (by decide) U Zxo Zyo Zwo Wu1 Wv1 Wu2 Wv2 N1 N2 NI H.out.tb).mono ?_
  rintro _ _ ⟨rfl, hb⟩
  replace H := Lib.hid (H.out.go hb)
  clear hb
  go_wp2_with (first
      | ((with_reducible refine isLoad ?_); refine ldA H ?_))
  refine (Need_wide (k := 20) p1 q1 p2 q2 p3 q3 ⟨#[]⟩ (some x) (some y) (some t) (some wi) u1 v1 u2 v2 _ (by decide) PP Zxp Zyp Zwp Wu1 Wv1 Wu2 Wv2 N3 N4 NW H.out.tb).mono ?_
  rintro _ _ ⟨rfl, hb⟩
  replace H := Lib.hid (H.out.go hb)
  clear hb
  go_wp2_with (first
      | ((with_reducible refine isLoad ?_); refine ldA H ?_))
  refine (Need_far (k := 20) g1 g2 p2 q2 p3 q3 ⟨#[]⟩ (some x) (some y) (some t) (some wi) u1 v1 u2 v2 _ (by decide) FA Zxp Zyp Zwp Wu1 Wv1 Wu2 Wv2 N5 H.out.tb).mono ?_
  rintro _ _ ⟨rfl, hb⟩
  replace H := Lib.hid (H.out.go hb)
  clear hb
  go_wp2_with (first
      | go_skip)
  go_ret
  exact ⟨rfl, H.out.bel⟩
end Go.Proofs.YtolekonocbeekaaDoor
