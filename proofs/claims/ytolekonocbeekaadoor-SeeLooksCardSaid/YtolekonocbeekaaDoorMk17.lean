/- see.Look, where something is left. Printed by gen/spech2.py. · gantry/span.Add. Printed by gen/spech2.py. · gantry/span.Join. Printed by gen/spech2.py. · span.Meet. Printed by gen/spech2.py. · span.Mul. Printed by gen/spech2.py. · span.Sq. Printed by gen/spech2.py. · gantry/span.Sub. Printed by gen/spech2.py. · turn.CosSpan, its closure. Printed by gen/spech2.py. · turn.CosSpan. Printed by gen/spech2.py. · gantry/turn.halfTurn. Printed by gen/spech.py. · gantry/turn.Of. Printed by gen/spech.py. · frame.Zero. Printed by gen/spech.py. · gantry/turn.fit. Printed by gen/spech.py. · turn.Back. Printed by gen/spech.py. · gantry/turn.Cos. Printed by gen/spech.py. · gantry/turn.Sin. Printed by gen/spech.py. · carry.rotate. Printed by gen/spech2.py. · carry.Grip. Printed by gen/spech2.py. · gantkeep4.carried. Printed by gen/spech2.py. · turn.SinSpan. Printed by gen/spech2.py. · see.Point. Printed by gen/spech2.py. · turn.Then. Printed by gen/spech2.py. · turn.Then, where the sum is the half turn. Printed by gen/spech2.py. · vec.Add. Printed by gen/spech2.py. · vec.Sub. Printed by gen/spech2.py. · vec.Turn. Printed by gen/spech2.py. · frame.Back. Printed by gen/spech2.py. · frame.Put. Printed by gen/spech2.py. · frame.Then. Printed by gen/spech2.py. · frame.Then, where the turns give the half turn. Printed by gen/spech2.py. · Turns and boxes that are turned: their order and their sizes: no walk. Printed by gen/spech2.py. · carry.Grasp. Printed by gen/spech2.py. · carry.Put. Printed by gen/spech2.py. · Poses and frames as records, what carries do to them; rows of slots and ways; loads of a block that is not the call's own. Printed by gen/spech2.py. · carry.Carry. Printed by gen/spech2.py. · carry.Drift over one way. Printed by gen/spech2.py. · carry.Drift over one way, where it is too wide. Printed by gen/spech2.py. -/
import Derived.Test.YtolekonocbeekaaDoorMk16
namespace Go.Proofs.YtolekonocbeekaaDoor
open Go.RowKit
set_option linter.unusedVariables false
set_option maxRecDepth 100000

theorem mx_zero {r : Rat} (h : Hid (0 ≤ r)) : mx r ((0 : Int) : Rat) = r := by unfold mx; rw [if_pos (show ((0 : Int) : Rat) ≤ r from h.out)]
theorem sub_le_add {x r : Rat} (h : 0 ≤ r) : x - r ≤ x + r := by grind
set_option maxHeartbeats 4000000 in
theorem Look_any {k m : Nat} (a1 b1 a2 b2 a3 b3 x y t r s : Rat) (u1 v1 u2 v2 u3 v3 : Rat) (w : World) (hk : k + m ≤ 8000) (P : Hid (PoseF k a1 b1 a2 b2 a3 b3)) (Zx : Hid (Sz k x)) (Zy : Hid (Sz k y)) (Zt : Hid (Sz k t)) (Zr : Hid (Sz m r)) (Zs : Hid (Sz m s)) (hr : Hid (0 ≤ r)) (hs : Hid (0 ≤ s)) (E1 : Hid (mx a1 (x - r) = u1)) (E2 : Hid (mn b1 (x + r) = v1)) (E3 : Hid (mx a2 (y - r) = u2)) (E4 : Hid (mn b2 (y + r) = v2)) (E5 : Hid (mx a3 (t - s) = u3)) (E6 : Hid (mn b3 (t + s) = v3)) (U : Hid (PoseF (k + m + 1) u1 v1 u2 v2 u3 v3)) (hT : Tb w) :
    Calls Tryd.prog 21 #[.agg #[.bool (sgO (some a1)), .string (nuO (some a1)), .string (deO (some a1)), .bool (sgO (some b1)), .string (nuO (some b1)), .string (deO (some b1)), .bool (sgO (some a2)), .string (nuO (some a2)), .string (deO (some a2)), .bool (sgO (some b2)), .string (nuO (some b2)), .string (deO (some b2)), .bool (sgO (some a3)), .string (nuO (some a3)), .string (deO (some a3)), .bool (sgO (some b3)), .string (nuO (some b3)), .string (deO (some b3))], .agg #[.bool (sgO (some x)), .string (nuO (some x)), .string (deO (some x)), .bool (sgO (some y)), .string (nuO (some y)), .string (deO (some y)), .bool false, .bool (sgO (some t)), .string (nuO (some t)), .string (deO (some t))], .agg #[.bool (sgO (some r)), .string (nuO (some r)), .string (deO (some r))], .agg #[.bool (sgO (some s)), .string (nuO (some s)), .string (deO (some s))]] w fun e w' => e = .returned (.tuple #[.agg #[.bool (sgO (some u1)), .string (nuO (some u1)), .string (deO (some u1)), .bool (sgO (some v1)), .string (nuO (some v1)), .string (deO (some v1)), .bool (sgO (some u2)), .string (nuO (some u2)), .string (deO (some u2)), .bool (sgO (some v2)), .string (nuO (some v2)), .string (deO (some v2)), .bool (sgO (some u3)), .string (nuO (some u3)), .string (deO (some u3)), .bool (sgO (some v3)), .string (nuO (some v3)), .string (deO (some v3))], .int .i64 0]) ∧ Below w.heap.size w w' := by
  have H := Lib.hid (Hp.start hT)
  clear hT
  have Sx : Hid (SmO (some x)) := Sz.o Zx (by omega)
  have Sy : Hid (SmO (some y)) := Sz.o Zy (by omega)
  have St : Hid (SmO (some t)) := Sz.o Zt (by omega)
  have Sr : Hid (SmO (some r)) := Sz.o Zr (by omega)
  have Ss : Hid (SmO (some s)) := Sz.o Zs (by omega)
  obtain ⟨c1, Ec1⟩ : ∃ z : Rat, Hid (x - mx (valO (some r)) ((0 : Int) : Rat) = z) := ⟨_, rfl⟩
  obtain ⟨d1, Ed1⟩ : ∃ z : Rat, Hid (x + mx (valO (some r)) ((0 : Int) : Rat) = z) := ⟨_, rfl⟩
  have Fc1 : Hid (x - r = c1) := by rw [← Ec1.out]; unfold Hid; rw [show valO (some r) = r from rfl, mx_zero hr]
  have Fd1 : Hid (x + r = d1) := by rw [← Ed1.out]; unfold Hid; rw [show valO (some r) = r from rfl, mx_zero hr]
  have W1 : Hid (Spn k (some x) (some x) x x) := Spn.of Zx (by omega)
  have M1 : Hid (mx a1 c1 = u1) := by rw [← Fc1.out]; exact E1.out
  have M2 : Hid (mn b1 d1 = v1) := by rw [← Fd1.out]; exact E2.out
  obtain ⟨c2, Ec2⟩ : ∃ z : Rat, Hid (y - mx (valO (some r)) ((0 : Int) : Rat) = z) := ⟨_, rfl⟩
  obtain ⟨d2, Ed2⟩ : ∃ z : Rat, Hid (y + mx (valO (some r)) ((0 : Int) : Rat) = z) := ⟨_, rfl⟩
  have Fc2 : Hid (y - r = c2) := by rw [← Ec2.out]; unfold Hid; rw [show valO (some r) = r from rfl, mx_zero hr]
  have Fd2 : Hid (y + r = d2) := by rw [← Ed2.out]; unfold Hid; rw [show valO (some r) = r from rfl, mx_zero hr]
  have W2 : Hid (Spn k (some y) (some y) y y) := Spn.of Zy (by omega)
  have M3 : Hid (mx a2 c2 = u2) := by rw [← Fc2.out]; exact E3.out
  have M4 : Hid (mn b2 d2 = v2) := by rw [← Fd2.out]; exact E4.out
  obtain ⟨c3, Ec3⟩ : ∃ z : Rat, Hid (t - mx (valO (some s)) ((0 : Int) : Rat) = z) := ⟨_, rfl⟩
  obtain ⟨d3, Ed3⟩ : ∃ z : Rat, Hid (t + mx (valO (some s)) ((0 : Int) : Rat) = z) := ⟨_, rfl⟩
  have Fc3 : Hid (t - s = c3) := by rw [← Ec3.out]; unfold Hid; rw [show valO (some s) = s from rfl, mx_zero hs]
  have Fd3 : Hid (t + s = d3) := by rw [← Ed3.out]; unfold Hid; rw [show valO (some s) = s from rfl, mx_zero hs]
  have W3 : Hid (Spn k (some t) (some t) t t) := Spn.of Zt (by omega)
  have M5 : Hid (mx a3 c3 = u3) := by rw [← Fc3.out]; exact E5.out
  have M6 : Hid (mn b3 d3 = v3) := by rw [← Fd3.out]; exact E6.out
  have Q : Hid (PoseF (k + m + 1) c1 d1 c2 d2 c3 d3) := by
    refine ⟨?_, ?_, ?_, ?_, ?_, ?_, ?_, ?_, ?_⟩
    · rw [← Fc1.out, ← Fd1.out]; exact sub_le_add hr.out
    · rw [← Fc2.out, ← Fd2.out]; exact sub_le_add hr.out
    · rw [← Fc3.out, ← Fd3.out]; exact sub_le_add hs.out
    · rw [← Fc1.out]; exact Sz.sub Zx Zr
    · rw [← Fd1.out]; exact Sz.add Zx Zr
    · rw [← Fc2.out]; exact Sz.sub Zy Zr
    · rw [← Fd2.out]; exact Sz.add Zy Zr
    · rw [← Fc3.out]; exact Sz.sub Zt Zs
    · rw [← Fd3.out]; exact Sz.add Zt Zs
  have P2 : Hid (PoseF (k + m + 1) a1 b1 a2 b2 a3 b3) := P.out.mono (by omega)
  have Rx : Hid (valO (some x) = x) := rfl
  have Ry : Hid (valO (some y) = y) := rfl
  have Rt : Hid (valO (some t) = t) := rfl
  go_enter Tryd.func21, Tryd.ntmps21
  go_wp2_with (first
      | ((with_reducible refine isLoad ?_); refine ldA H ?_)
      | ((with_reducible refine isBox ?_); refine bxA H ?_; clear H; intro _ _ H)
      | ((with_reducible refine isAlloc ?_); refine alA H ?_; clear H; intro _ _ H))
  refine (seeOf_any (some x) (some y) (some t) x y t _ Sx Sy St Rx Ry Rt H.out.tb).mono ?_
  rintro _ _ ⟨rfl, hb⟩
  replace H := Lib.hid (H.out.go hb)
  clear hb
  go_wp2_with (first
      | ((with_reducible refine isStore ?_); refine stA H ?_; clear H; intro _ H)
      | ((with_reducible refine isAlloc ?_); refine alA H ?_; clear H; intro _ _ H))
  refine wp_region_U 8 9 [.s] H (by kernel_rfl) (by kernel_rfl) (by kernel_rfl) (by decide) ?_
  simp only [List.take_succ_cons, List.take_zero, List.drop_succ_cons, List.drop_zero]
  repeat (first
      | ((with_reducible refine kLoad ?_); refine kldA H ?_))
  refine wpK_step (fun K hK => ?_)
  go_simp
  apply Exists.intro
  refine ⟨fun sx => ?_, hK _ ?_⟩
  · go_at_call 36
    exact Widen_any (j := k) (i := k) (m := m) (some x) (some x) x x (some y) (some y) y y (some t) (some t) t t (some r) (some s) c1 d1 c2 d2 c3 d3 _ (by omega) W1 W2 W3 Zr Zs Ec1 Ed1 Ec2 Ed2 Ec3 Ed3 (H.out.tbx sx)
  clear hK K
  refine wpK_step (fun K hK => ?_)
  go_simp
  apply Exists.intro
  refine ⟨fun sx => ?_, hK _ ?_⟩
  · go_at_call 12
    exact Narrow_y a1 b1 a2 b2 a3 b3 c1 d1 c2 d2 c3 d3 _ (by omega) P2.out Q.out u1 v1 u2 v2 u3 v3 M1 M2 M3 M4 M5 M6 U.out (H.out.tbx sx)
  clear hK K
  repeat (first
      | ((fail_if_success (with_reducible refine kCall ?_)); (with_reducible refine kCons ?_); refine wpK_step (fun K hK => ?_); go_simp; refine hK _ ?_; clear hK K))
  refine wpKeep_nil ?_
  refine wpL_S (by rfl) rfl rfl rfl (by (first | exact rRat | exact rSpan | exact rPose | exact rFrame | exact rVec | exact rTurn | exact rBox)) (by rfl) (by rfl) (by (repeat (first | apply Upd.head | apply Upd.tail | assumption))) (by rfl) (by (simp only [List.drop, List.take, List.nil_append, List.cons_append]); rfl) (by exact Nat.le_of_ble_eq_true rfl) (by rfl) ?_
  refine wpL_nil ?_
  clear H
  intro _ H
  go_wp2_with (first
      | go_skip)
  exact bodyPost_ret (results_Hv H Tryd.results21 (by (first | exact rRat | exact rSpan | exact rPose | exact rFrame | exact rVec | exact rTurn | exact rBox)) rfl (by (repeat (first | exact List.Mem.head _ | refine List.Mem.tail _ ?_ | assumption))) (by rfl) (by rfl)) rfl ⟨rfl, H.out.bel⟩
end Go.Proofs.YtolekonocbeekaaDoor

namespace Go.Proofs.YtolekonocbeekaaDoor
open Go.RowKit
set_option linter.unusedVariables false
set_option maxRecDepth 100000

set_option maxHeartbeats 4000000 in
theorem spanAdd_any {j k : Nat} (a b : Option Rat) (p q : Rat) (c d : Option Rat) (r s : Rat) (u : Rat) (v : Rat) (w : World) (hk : j + k ≤ 8000) (A : Hid (Spn j a b p q)) (C : Hid (Spn k c d r s)) (Eu : Hid (p + r = u)) (Ev : Hid (q + s = v)) (hT : Tb w) :
    Calls Tryd.prog 69 #[.agg #[.bool (sgO a), .string (nuO a), .string (deO a), .bool (sgO b), .string (nuO b), .string (deO b)], .agg #[.bool (sgO c), .string (nuO c), .string (deO c), .bool (sgO d), .string (nuO d), .string (deO d)]] w fun e w' => e = .returned (.agg #[.bool (sgO (some u)), .string (nuO (some u)), .string (deO (some u)), .bool (sgO (some v)), .string (nuO (some v)), .string (deO (some v))]) ∧ Below w.heap.size w w' := by
  have H := Lib.hid (Hp.start hT)
  clear hT
  have Zp : Hid (Sz j p) := A.out.zp
  have Sp : Hid (SmO (some p)) := Sz.o Zp (by omega)
  have Zq : Hid (Sz j q) := A.out.zq
  have Sq : Hid (SmO (some q)) := Sz.o Zq (by omega)
  have Zr : Hid (Sz k r) := C.out.zp
  have Sr : Hid (SmO (some r)) := Sz.o Zr (by omega)
  have Zs : Hid (Sz k s) := C.out.zq
  have Ss : Hid (SmO (some s)) := Sz.o Zs (by omega)
  have Zu : Hid (Sz (j + k + 1) u) := szEq Eu (Sz.add Zp Zr)
  have Su : Hid (SmO (some u)) := Sz.o Zu (by omega)
  have Zv : Hid (Sz (j + k + 1) v) := szEq Ev (Sz.add Zq Zs)
  have Sv : Hid (SmO (some v)) := Sz.o Zv (by omega)
  go_enter Tryd.func69, Tryd.ntmps69
  go_wp2_with (first
      | ((with_reducible refine isBox ?_); refine bxA H ?_; clear H; intro _ _ H)
      | ((with_reducible refine isAlloc ?_); refine alA H ?_; clear H; intro _ _ H))
  refine wp_region_T 4 H (by kernel_rfl) (by kernel_rfl) ?_
  simp only [List.take_succ_cons, List.take_zero, List.drop_succ_cons, List.drop_zero]
  repeat (first
      | ((with_reducible refine kLoad ?_); refine kldA H ?_))
  refine wpK_step (fun K hK => ?_)
  go_simp
  apply Exists.intro
  refine ⟨fun sx => ?_, hK _ ?_⟩
  · go_at_call 87
    exact spanfit_any a b p q _ A.out.sa A.out.sb A.out.n (H.out.tbx sx)
  clear hK K
  repeat (first
      | ((with_reducible refine kLoad ?_); refine kldA H ?_))
  refine wpK_step (fun K hK => ?_)
  go_simp
  apply Exists.intro
  refine ⟨fun sx => ?_, hK _ ?_⟩
  · go_at_call 87
    exact spanfit_any c d r s _ C.out.sa C.out.sb C.out.n (H.out.tbx sx)
  clear hK K
  refine wpKeep_nil ?_
  clear H
  intro _ H
  go_wp2_with (first
      | ((with_reducible refine isStore ?_); refine stA H ?_; clear H; intro _ H))
  refine wp_region_T 11 H (by kernel_rfl) (by kernel_rfl) ?_
  simp only [List.take_succ_cons, List.take_zero, List.drop_succ_cons, List.drop_zero]
  repeat (first
      | ((with_reducible refine kLoad ?_); refine kldA H ?_)
      | ((fail_if_success (with_reducible refine kCall ?_)); (with_reducible refine kCons ?_); refine wpK_step (fun K hK => ?_); go_simp; refine hK _ ?_; clear hK K))
  refine wpK_step (fun K hK => ?_)
  go_simp
  apply Exists.intro
  refine ⟨fun sx => ?_, hK _ ?_⟩
  · go_at_call 20
    exact RAdd_any (some p) (some r) u _ Sp Sr Eu (H.out.tbx sx)
  clear hK K
  repeat (first
      | ((with_reducible refine kLoad ?_); refine kldA H ?_)
      | ((fail_if_success (with_reducible refine kCall ?_)); (with_reducible refine kCons ?_); refine wpK_step (fun K hK => ?_); go_simp; refine hK _ ?_; clear hK K))
  refine wpK_step (fun K hK => ?_)
  go_simp
  apply Exists.intro
  refine ⟨fun sx => ?_, hK _ ?_⟩
  · go_at_call 20
    exact RAdd_any (some q) (some s) v _ Sq Ss Ev (H.out.tbx sx)
  clear hK K
  repeat (first
      | ((fail_if_success (with_reducible refine kCall ?_)); (with_reducible refine kCons ?_); refine wpK_step (fun K hK => ?_); go_simp; refine hK _ ?_; clear hK K))
  refine wpKeep_nil ?_
  clear H
  intro _ H
  go_wp2_with (first
      | ((with_reducible refine isStore ?_); refine stA H ?_; clear H; intro _ H))
  exact bodyPost_ret (results_H H Tryd.results69 (by (first | exact rRat | exact rSpan | exact rPose | exact rFrame | exact rVec | exact rTurn | exact rBox)) rfl (by (repeat (first | exact List.Mem.head _ | refine List.Mem.tail _ ?_ | assumption))) (by rfl)) rfl ⟨rfl, H.out.bel⟩
end Go.Proofs.YtolekonocbeekaaDoor

namespace Go.Proofs.YtolekonocbeekaaDoor
open Go.RowKit
set_option linter.unusedVariables false
set_option maxRecDepth 100000

set_option maxHeartbeats 4000000 in
theorem spanJoin_any {k : Nat} (a b : Option Rat) (p q : Rat) (c d : Option Rat) (r s : Rat) (u : Rat) (v : Rat) (w : World) (hk : k ≤ 4000) (A : Hid (Spn k a b p q)) (C : Hid (Spn k c d r s)) (Eu : Hid (mn p r = u)) (Ev : Hid (mx q s = v)) (hT : Tb w) :
    Calls Tryd.prog 104 #[.agg #[.bool (sgO a), .string (nuO a), .string (deO a), .bool (sgO b), .string (nuO b), .string (deO b)], .agg #[.bool (sgO c), .string (nuO c), .string (deO c), .bool (sgO d), .string (nuO d), .string (deO d)]] w fun e w' => e = .returned (.agg #[.bool (sgO (some u)), .string (nuO (some u)), .string (deO (some u)), .bool (sgO (some v)), .string (nuO (some v)), .string (deO (some v))]) ∧ Below w.heap.size w w' := by
  have H := Lib.hid (Hp.start hT)
  clear hT
  have Zp : Hid (Sz k p) := A.out.zp
  have Sp : Hid (SmO (some p)) := Sz.o Zp (by omega)
  have Zq : Hid (Sz k q) := A.out.zq
  have Sq : Hid (SmO (some q)) := Sz.o Zq (by omega)
  have Zr : Hid (Sz k r) := C.out.zp
  have Sr : Hid (SmO (some r)) := Sz.o Zr (by omega)
  have Zs : Hid (Sz k s) := C.out.zq
  have Ss : Hid (SmO (some s)) := Sz.o Zs (by omega)
  have Zu : Hid (Sz (k + k) u) := szEq Eu (Sz.mn Zp Zr)
  have Su : Hid (SmO (some u)) := Sz.o Zu (by omega)
  have Zv : Hid (Sz (k + k) v) := szEq Ev (Sz.mx Zq Zs)
  have Sv : Hid (SmO (some v)) := Sz.o Zv (by omega)
  go_enter Tryd.func104, Tryd.ntmps104
  go_wp2_with (first
      | ((with_reducible refine isBox ?_); refine bxA H ?_; clear H; intro _ _ H)
      | ((with_reducible refine isAlloc ?_); refine alA H ?_; clear H; intro _ _ H))
  refine wp_region_T 4 H (by kernel_rfl) (by kernel_rfl) ?_
  simp only [List.take_succ_cons, List.take_zero, List.drop_succ_cons, List.drop_zero]
  repeat (first
      | ((with_reducible refine kLoad ?_); refine kldA H ?_))
  refine wpK_step (fun K hK => ?_)
  go_simp
  apply Exists.intro
  refine ⟨fun sx => ?_, hK _ ?_⟩
  · go_at_call 87
    exact spanfit_any a b p q _ A.out.sa A.out.sb A.out.n (H.out.tbx sx)
  clear hK K
  repeat (first
      | ((with_reducible refine kLoad ?_); refine kldA H ?_))
  refine wpK_step (fun K hK => ?_)
  go_simp
  apply Exists.intro
  refine ⟨fun sx => ?_, hK _ ?_⟩
  · go_at_call 87
    exact spanfit_any c d r s _ C.out.sa C.out.sb C.out.n (H.out.tbx sx)
  clear hK K
  refine wpKeep_nil ?_
  clear H
  intro _ H
  go_wp2_with (first
      | ((with_reducible refine isStore ?_); refine stA H ?_; clear H; intro _ H))
  refine wp_region_T 11 H (by kernel_rfl) (by kernel_rfl) ?_
  simp only [List.take_succ_cons, List.take_zero, List.drop_succ_cons, List.drop_zero]
  repeat (first
      | ((with_reducible refine kLoad ?_); refine kldA H ?_)
      | ((fail_if_success (with_reducible refine kCall ?_)); (with_reducible refine kCons ?_); refine wpK_step (fun K hK => ?_); go_simp; refine hK _ ?_; clear hK K))
  refine wpK_step (fun K hK => ?_)
  go_simp
  apply Exists.intro
  refine ⟨fun sx => ?_, hK _ ?_⟩
  · go_at_call 65
    exact RMin_any (some p) (some r) u _ Sp Sr Eu (H.out.tbx sx)
  clear hK K
  repeat (first
      | ((with_reducible refine kLoad ?_); refine kldA H ?_)
      | ((fail_if_success (with_reducible refine kCall ?_)); (with_reducible refine kCons ?_); refine wpK_step (fun K hK => ?_); go_simp; refine hK _ ?_; clear hK K))
  refine wpK_step (fun K hK => ?_)
  go_simp
  apply Exists.intro
  refine ⟨fun sx => ?_, hK _ ?_⟩
  · go_at_call 57
    exact RMax_any (some q) (some s) v _ Sq Ss Ev (H.out.tbx sx)
  clear hK K
  repeat (first
      | ((fail_if_success (with_reducible refine kCall ?_)); (with_reducible refine kCons ?_); refine wpK_step (fun K hK => ?_); go_simp; refine hK _ ?_; clear hK K))
  refine wpKeep_nil ?_
  clear H
  intro _ H
  go_wp2_with (first
      | ((with_reducible refine isStore ?_); refine stA H ?_; clear H; intro _ H))
  exact bodyPost_ret (results_H H Tryd.results104 (by (first | exact rRat | exact rSpan | exact rPose | exact rFrame | exact rVec | exact rTurn | exact rBox)) rfl (by (repeat (first | exact List.Mem.head _ | refine List.Mem.tail _ ?_ | assumption))) (by rfl)) rfl ⟨rfl, H.out.bel⟩
end Go.Proofs.YtolekonocbeekaaDoor

namespace Go.Proofs.YtolekonocbeekaaDoor
open Go.RowKit
set_option linter.unusedVariables false
set_option maxRecDepth 100000

set_option maxHeartbeats 4000000 in
theorem spanMeet_any {k : Nat} (a b : Option Rat) (p q : Rat) (c d : Option Rat) (r s : Rat) (g : Bool) (w : World) (hk : k ≤ 9000) (A : Hid (Spn k a b p q)) (C : Hid (Spn k c d r s)) (HG0 : Hid (decide (p ≤ s ∧ r ≤ q) = g)) (hT : Tb w) :
    Calls Tryd.prog 79 #[.agg #[.bool (sgO a), .string (nuO a), .string (deO a), .bool (sgO b), .string (nuO b), .string (deO b)], .agg #[.bool (sgO c), .string (nuO c), .string (deO c), .bool (sgO d), .string (nuO d), .string (deO d)]] w fun e w' => e = .returned (.bool g) ∧ Below w.heap.size w w' := by
  have H := Lib.hid (Hp.start hT)
  clear hT
  have Zp : Hid (Sz k p) := A.out.zp
  have Sp : Hid (SmO (some p)) := Sz.o Zp (by omega)
  have Zq : Hid (Sz k q) := A.out.zq
  have Sq : Hid (SmO (some q)) := Sz.o Zq (by omega)
  have Zr : Hid (Sz k r) := C.out.zp
  have Sr : Hid (SmO (some r)) := Sz.o Zr (by omega)
  have Zs : Hid (Sz k s) := C.out.zq
  have Ss : Hid (SmO (some s)) := Sz.o Zs (by omega)
  obtain ⟨k1, K1⟩ : ∃ z, Hid (cmpQ (valO (some p)) (valO (some s)) = z) := ⟨_, rfl⟩
  obtain ⟨k2, K2⟩ : ∃ z, Hid (cmpQ (valO (some r)) (valO (some q)) = z) := ⟨_, rfl⟩
  have hg2 : decide (k1 ≤ 0 ∧ k2 ≤ 0) = g := by
    rw [← HG0.out, ← K1.out, ← K2.out]
    exact decide_eq_decide.2 (and_congr cmpQ_le cmpQ_le)
  clear HG0
  by_cases hk0 : k1 ≤ 0
  · have HG : Hid (decide (k2 ≤ 0) = g) := by unfold Hid; rw [← hg2]; simp [hk0]
    clear hg2
    go_enter Tryd.func79, Tryd.ntmps79
    go_wp2_with (first
        | ((with_reducible refine isBox ?_); refine bxA H ?_; clear H; intro _ _ H))
    refine wp_region_T 4 H (by kernel_rfl) (by kernel_rfl) ?_
    simp only [List.take_succ_cons, List.take_zero, List.drop_succ_cons, List.drop_zero]
    repeat (first
        | ((with_reducible refine kLoad ?_); refine kldA H ?_))
    refine wpK_step (fun K hK => ?_)
    go_simp
    apply Exists.intro
    refine ⟨fun sx => ?_, hK _ ?_⟩
    · go_at_call 87
      exact spanfit_any a b p q _ A.out.sa A.out.sb A.out.n (H.out.tbx sx)
    clear hK K
    repeat (first
        | ((with_reducible refine kLoad ?_); refine kldA H ?_))
    refine wpK_step (fun K hK => ?_)
    go_simp
    apply Exists.intro
    refine ⟨fun sx => ?_, hK _ ?_⟩
    · go_at_call 87
      exact spanfit_any c d r s _ C.out.sa C.out.sb C.out.n (H.out.tbx sx)
    clear hK K
    refine wpKeep_nil ?_
    clear H
    intro _ H
    go_wp2_with (first
        | ((with_reducible refine isLoad ?_); refine ldA H ?_)
        | ((with_reducible refine isStore ?_); refine stA H ?_; clear H; intro _ H))
    refine (RCmp_any (some p) (some s) k1 _ Sp Ss K1 H.out.tb).mono ?_
    rintro _ _ ⟨rfl, hb⟩
    replace H := Lib.hid (H.out.go hb)
    clear hb
    go_wp2_with (first
        | ((with_reducible refine isLoad ?_); refine ldA H ?_))
    refine (RCmp_any (some r) (some q) k2 _ Sr Sq K2 H.out.tb).mono ?_
    rintro _ _ ⟨rfl, hb⟩
    replace H := Lib.hid (H.out.go hb)
    clear hb
    go_wp2_with (first
        | go_skip)
    go_ret
    exact ⟨ret_bool HG.out, H.out.bel⟩
  · have HG : Hid (false = g) := by unfold Hid; rw [← hg2]; simp [hk0]
    have hk1 : decide (k1 ≤ 0) = false := decide_eq_false hk0
    clear hg2
    go_enter Tryd.func79, Tryd.ntmps79
    go_wp2_with (first
        | ((with_reducible refine isBox ?_); refine bxA H ?_; clear H; intro _ _ H))
    refine wp_region_T 4 H (by kernel_rfl) (by kernel_rfl) ?_
    simp only [List.take_succ_cons, List.take_zero, List.drop_succ_cons, List.drop_zero]
    repeat (first
        | ((with_reducible refine kLoad ?_); refine kldA H ?_))
    refine wpK_step (fun K hK => ?_)
    go_simp
    apply Exists.intro
    refine ⟨fun sx => ?_, hK _ ?_⟩
    · go_at_call 87
      exact spanfit_any a b p q _ A.out.sa A.out.sb A.out.n (H.out.tbx sx)
    clear hK K
    repeat (first
        | ((with_reducible refine kLoad ?_); refine kldA H ?_))
    refine wpK_step (fun K hK => ?_)
    go_simp
    apply Exists.intro
    refine ⟨fun sx => ?_, hK _ ?_⟩
    · go_at_call 87
      exact spanfit_any c d r s _ C.out.sa C.out.sb C.out.n (H.out.tbx sx)
    clear hK K
    refine wpKeep_nil ?_
    clear H
    intro _ H
    go_wp2_with (first
        | ((with_reducible refine isLoad ?_); refine ldA H ?_)
        | ((with_reducible refine isStore ?_); refine stA H ?_; clear H; intro _ H))
    refine (RCmp_any (some p) (some s) k1 _ Sp Ss K1 H.out.tb).mono ?_
    rintro _ _ ⟨rfl, hb⟩
    replace H := Lib.hid (H.out.go hb)
    clear hb
    go_wp2_with (first
        | go_skip)
    go_ret
    exact ⟨ret_bool HG.out, H.out.bel⟩
end Go.Proofs.YtolekonocbeekaaDoor

namespace Go.Proofs.YtolekonocbeekaaDoor
open Go.RowKit
set_option linter.unusedVariables false
set_option maxRecDepth 100000

set_option maxHeartbeats 4000000 in
theorem spanMul_any {j k : Nat} (a b : Option Rat) (p q : Rat) (c d : Option Rat) (r s : Rat) (lo hi : Rat) (w : World) (hk : j + k ≤ 3000) (A : Hid (Spn j a b p q)) (C : Hid (Spn k c d r s)) (F1 : Hid (mulL p q r s = lo)) (F2 : Hid (mulH p q r s = hi)) (hT : Tb w) :
    Calls Tryd.prog 71 #[.agg #[.bool (sgO a), .string (nuO a), .string (deO a), .bool (sgO b), .string (nuO b), .string (deO b)], .agg #[.bool (sgO c), .string (nuO c), .string (deO c), .bool (sgO d), .string (nuO d), .string (deO d)]] w fun e w' => e = .returned (.agg #[.bool (sgO (some lo)), .string (nuO (some lo)), .string (deO (some lo)), .bool (sgO (some hi)), .string (nuO (some hi)), .string (deO (some hi))]) ∧ Below w.heap.size w w' := by
  have H := Lib.hid (Hp.start hT)
  clear hT
  have Zp : Hid (Sz j p) := A.out.zp
  have Sp : Hid (SmO (some p)) := Sz.o Zp (by omega)
  have Zq : Hid (Sz j q) := A.out.zq
  have Sq : Hid (SmO (some q)) := Sz.o Zq (by omega)
  have Zr : Hid (Sz k r) := C.out.zp
  have Sr : Hid (SmO (some r)) := Sz.o Zr (by omega)
  have Zs : Hid (Sz k s) := C.out.zq
  have Ss : Hid (SmO (some s)) := Sz.o Zs (by omega)
  obtain ⟨x0, Ex0⟩ : ∃ z : Rat, Hid (p * r = z) := ⟨_, rfl⟩
  have Zx0 : Hid (Sz (j + k) x0) := szEq Ex0 (Sz.mul Zp Zr)
  have Sx0 : Hid (SmO (some x0)) := Sz.o Zx0 (by omega)
  obtain ⟨x1, Ex1⟩ : ∃ z : Rat, Hid (p * s = z) := ⟨_, rfl⟩
  have Zx1 : Hid (Sz (j + k) x1) := szEq Ex1 (Sz.mul Zp Zs)
  have Sx1 : Hid (SmO (some x1)) := Sz.o Zx1 (by omega)
  obtain ⟨x2, Ex2⟩ : ∃ z : Rat, Hid (q * r = z) := ⟨_, rfl⟩
  have Zx2 : Hid (Sz (j + k) x2) := szEq Ex2 (Sz.mul Zq Zr)
  have Sx2 : Hid (SmO (some x2)) := Sz.o Zx2 (by omega)
  obtain ⟨x3, Ex3⟩ : ∃ z : Rat, Hid (q * s = z) := ⟨_, rfl⟩
  have Zx3 : Hid (Sz (j + k) x3) := szEq Ex3 (Sz.mul Zq Zs)
  have Sx3 : Hid (SmO (some x3)) := Sz.o Zx3 (by omega)
  have G1 : Hid (arL x0 [x1, x2, x3] = lo) := by have h0 := F1.out; have h1 := Ex0.out; have h2 := Ex1.out; have h3 := Ex2.out; have h4 := Ex3.out; subst_vars; rfl
  have G2 : Hid (arH x0 [x1, x2, x3] = hi) := by have h0 := F2.out; have h1 := Ex0.out; have h2 := Ex1.out; have h3 := Ex2.out; have h4 := Ex3.out; subst_vars; rfl
  have ZA : Hid (∀ y ∈ [x0, x1, x2, x3], Sz (j + k) y) := by
    intro y hy
    simp only [List.mem_cons, List.not_mem_nil, or_false] at hy
    rcases hy with rfl | rfl | rfl | rfl
    · exact Zx0
    · exact Zx1
    · exact Zx2
    · exact Zx3
  go_enter Tryd.func71, Tryd.ntmps71
  go_wp2_with (first
      | ((with_reducible refine isBox ?_); refine bxA H ?_; clear H; intro _ _ H)
      | ((with_reducible refine isAlloc ?_); refine alA H ?_; clear H; intro _ _ H))
  refine wp_region_T 4 H (by kernel_rfl) (by kernel_rfl) ?_
  simp only [List.take_succ_cons, List.take_zero, List.drop_succ_cons, List.drop_zero]
  repeat (first
      | ((with_reducible refine kLoad ?_); refine kldA H ?_))
  refine wpK_step (fun K hK => ?_)
  go_simp
  apply Exists.intro
  refine ⟨fun sx => ?_, hK _ ?_⟩
  · go_at_call 87
    exact spanfit_any a b p q _ A.out.sa A.out.sb A.out.n (H.out.tbx sx)
  clear hK K
  repeat (first
      | ((with_reducible refine kLoad ?_); refine kldA H ?_))
  refine wpK_step (fun K hK => ?_)
  go_simp
  apply Exists.intro
  refine ⟨fun sx => ?_, hK _ ?_⟩
  · go_at_call 87
    exact spanfit_any c d r s _ C.out.sa C.out.sb C.out.n (H.out.tbx sx)
  clear hK K
  refine wpKeep_nil ?_
  clear H
  intro _ H
  go_wp2_with (first
      | ((with_reducible refine isStore ?_); refine stA H ?_; clear H; intro _ H))
  refine wp_region_T 20 H (by kernel_rfl) (by kernel_rfl) ?_
  simp only [List.take_succ_cons, List.take_zero, List.drop_succ_cons, List.drop_zero]
  repeat (first
      | ((with_reducible refine kLoad ?_); refine kldA H ?_)
      | ((fail_if_success (with_reducible refine kCall ?_)); (with_reducible refine kCons ?_); refine wpK_step (fun K hK => ?_); go_simp; refine hK _ ?_; clear hK K))
  refine wpK_step (fun K hK => ?_)
  go_simp
  apply Exists.intro
  refine ⟨fun sx => ?_, hK _ ?_⟩
  · go_at_call 86
    exact RMul_any (some p) (some r) x0 _ Sp Sr Ex0 (H.out.tbx sx)
  clear hK K
  repeat (first
      | ((with_reducible refine kLoad ?_); refine kldA H ?_)
      | ((fail_if_success (with_reducible refine kCall ?_)); (with_reducible refine kCons ?_); refine wpK_step (fun K hK => ?_); go_simp; refine hK _ ?_; clear hK K))
  refine wpK_step (fun K hK => ?_)
  go_simp
  apply Exists.intro
  refine ⟨fun sx => ?_, hK _ ?_⟩
  · go_at_call 86
    exact RMul_any (some p) (some s) x1 _ Sp Ss Ex1 (H.out.tbx sx)
  clear hK K
  repeat (first
      | ((with_reducible refine kLoad ?_); refine kldA H ?_)
      | ((fail_if_success (with_reducible refine kCall ?_)); (with_reducible refine kCons ?_); refine wpK_step (fun K hK => ?_); go_simp; refine hK _ ?_; clear hK K))
  refine wpK_step (fun K hK => ?_)
  go_simp
  apply Exists.intro
  refine ⟨fun sx => ?_, hK _ ?_⟩
  · go_at_call 86
    exact RMul_any (some q) (some r) x2 _ Sq Sr Ex2 (H.out.tbx sx)
  clear hK K
  repeat (first
      | ((with_reducible refine kLoad ?_); refine kldA H ?_)
      | ((fail_if_success (with_reducible refine kCall ?_)); (with_reducible refine kCons ?_); refine wpK_step (fun K hK => ?_); go_simp; refine hK _ ?_; clear hK K))
  refine wpK_step (fun K hK => ?_)
  go_simp
  apply Exists.intro
  refine ⟨fun sx => ?_, hK _ ?_⟩
  · go_at_call 86
    exact RMul_any (some q) (some s) x3 _ Sq Ss Ex3 (H.out.tbx sx)
  clear hK K
  refine wpKeep_nil ?_
  clear H
  intro _ H
  go_wp2_with (first
      | ((with_reducible refine isSlice ?_); refine wpList_sliceH H 24 (ratC [x0, x1, x2, x3]) 4 rfl rfl (by intro W; kernel_rfl) ?_; clear H; intro _ _ H; (simp only [Act.put, List.setIfInBounds_toArray, List.set_cons_succ, List.set_cons_zero])))
  refine (around_any (k := j + k) x0 [x1, x2, x3] 3 _ 24 lo hi _ (by omega) (by decide) (by decide) rfl ZA (H.out.get (.head _)) G1 G2 H.out.tb).mono ?_
  rintro _ _ ⟨rfl, hb⟩
  replace H := Lib.hid (H.out.go hb)
  clear hb
  go_wp2_with (first
      | ((with_reducible refine isStore ?_); refine stA H ?_; clear H; intro _ H))
  exact bodyPost_ret (results_H H Tryd.results71 (by (first | exact rRat | exact rSpan | exact rPose | exact rFrame | exact rVec | exact rTurn | exact rBox)) rfl (by (repeat (first | exact List.Mem.head _ | refine List.Mem.tail _ ?_ | assumption))) (by rfl)) rfl ⟨rfl, H.out.bel⟩
end Go.Proofs.YtolekonocbeekaaDoor

namespace Go.Proofs.YtolekonocbeekaaDoor
open Go.RowKit
set_option linter.unusedVariables false
set_option maxRecDepth 100000

set_option maxHeartbeats 4000000 in
theorem spanSq_any {k : Nat} (a b : Option Rat) (p q : Rat) (lo hi : Rat) (w : World) (hk : k ≤ 1400) (A : Hid (Spn k a b p q)) (F1 : Hid (sqL p q = lo)) (F2 : Hid (sqH p q = hi)) (hT : Tb w) :
    Calls Tryd.prog 102 #[.agg #[.bool (sgO a), .string (nuO a), .string (deO a), .bool (sgO b), .string (nuO b), .string (deO b)]] w fun e w' => e = .returned (.agg #[.bool (sgO (some lo)), .string (nuO (some lo)), .string (deO (some lo)), .bool (sgO (some hi)), .string (nuO (some hi)), .string (deO (some hi))]) ∧ Below w.heap.size w w' := by
  have H := Lib.hid (Hp.start hT)
  clear hT
  have Zp : Hid (Sz k p) := A.out.zp
  have Sp : Hid (SmO (some p)) := Sz.o Zp (by omega)
  have Zq : Hid (Sz k q) := A.out.zq
  have Sq : Hid (SmO (some q)) := Sz.o Zq (by omega)
  obtain ⟨x0, Ex0⟩ : ∃ z : Rat, Hid (p * p = z) := ⟨_, rfl⟩
  have Zx0 : Hid (Sz (k + k) x0) := szEq Ex0 (Sz.mul Zp Zp)
  have Sx0 : Hid (SmO (some x0)) := Sz.o Zx0 (by omega)
  obtain ⟨x1, Ex1⟩ : ∃ z : Rat, Hid (q * q = z) := ⟨_, rfl⟩
  have Zx1 : Hid (Sz (k + k) x1) := szEq Ex1 (Sz.mul Zq Zq)
  have Sx1 : Hid (SmO (some x1)) := Sz.o Zx1 (by omega)
  obtain ⟨o, Eo⟩ : ∃ z : Rat, Hid (((0 : Int) : Rat) = z) := ⟨_, rfl⟩
  have Zo : Hid (Sz 3 o) := szEq Eo (Sz.int (0) (by decide))
  have So : Hid (SmO (some o)) := Sz.o Zo (by omega)
  have G2 : Hid (arH x0 [x1] = hi) := by have h0 := F2.out; have h1 := Ex0.out; have h2 := Ex1.out; subst_vars; rfl
  obtain ⟨lo1, G1⟩ : ∃ z, Hid (arL x0 [x1] = z) := ⟨_, rfl⟩
  have ZA : Hid (∀ y ∈ [x0, x1], Sz (k + k) y) := by
    intro y hy
    simp only [List.mem_cons, List.not_mem_nil, or_false] at hy
    rcases hy with rfl | rfl
    · exact Zx0
    · exact Zx1
  have NPQ : Hid (nmS (some p) (some q) = (p, q)) := nmS_some A.out.le
  by_cases B0 : p ≤ 0 ∧ 0 ≤ q
  · have B1 : Hid (decide ((nmS (some p) (some q)).1 ≤ valO (some o) ∧ valO (some o) ≤ (nmS (some p) (some q)).2) = true) := by unfold Hid; rw [NPQ.out]; have h1 := Eo.out; subst h1; exact decide_eq_true B0
    have Elo : Hid (o = lo) := by have h1 := Eo.out; have h2 := F1.out; unfold sqL at h2; rw [if_pos B0] at h2; exact h1.symm.trans h2
    clear B0
    go_enter Tryd.func102, Tryd.ntmps102
    go_wp2_with (first
        | ((with_reducible refine isLoad ?_); refine ldA H ?_)
        | ((with_reducible refine isBox ?_); refine bxA H ?_; clear H; intro _ _ H)
        | ((with_reducible refine isAlloc ?_); refine alA H ?_; clear H; intro _ _ H))
    refine (spanfit_any a b p q _ A.out.sa A.out.sb A.out.n H.out.tb).mono ?_
    rintro _ _ ⟨rfl, hb⟩
    replace H := Lib.hid (H.out.go hb)
    clear hb
    go_wp2_with (first
        | ((with_reducible refine isStore ?_); refine stA H ?_; clear H; intro _ H))
    refine wp_region_U 10 13 [.a, .q, .a] H (by kernel_rfl) (by kernel_rfl) (by kernel_rfl) (by decide) ?_
    simp only [List.take_succ_cons, List.take_zero, List.drop_succ_cons, List.drop_zero]
    repeat (first
        | ((with_reducible refine kLoad ?_); refine kldA H ?_)
        | ((fail_if_success (with_reducible refine kCall ?_)); (with_reducible refine kCons ?_); refine wpK_step (fun K hK => ?_); go_simp; refine hK _ ?_; clear hK K))
    refine wpK_step (fun K hK => ?_)
    go_simp
    apply Exists.intro
    refine ⟨fun sx => ?_, hK _ ?_⟩
    · go_at_call 86
      exact RMul_any (some p) (some p) x0 _ Sp Sp Ex0 (H.out.tbx sx)
    clear hK K
    repeat (first
        | ((with_reducible refine kLoad ?_); refine kldA H ?_)
        | ((fail_if_success (with_reducible refine kCall ?_)); (with_reducible refine kCons ?_); refine wpK_step (fun K hK => ?_); go_simp; refine hK _ ?_; clear hK K))
    refine wpK_step (fun K hK => ?_)
    go_simp
    apply Exists.intro
    refine ⟨fun sx => ?_, hK _ ?_⟩
    · go_at_call 86
      exact RMul_any (some q) (some q) x1 _ Sq Sq Ex1 (H.out.tbx sx)
    clear hK K
    refine wpKeep_nil ?_
    refine wpL_V 24 (ratC [x0, x1]) 2 (by rfl) rfl (by intro W; kernel_rfl) ?_
    intro _
    (simp only [Act.put, List.setIfInBounds_toArray, List.set_cons_succ, List.set_cons_zero])
    apply wpL_C (by rfl) (by (first | exact wanted_none rfl | exact wanted_some rfl rfl))
    · intro W hW
      unfold keepsAt
      go_simp
      go_at_call 107
      exact around_any (k := k + k) x0 [x1] 1 _ 24 lo1 hi _ (by omega) (by decide) (by decide) rfl ZA (hW.out.get (.head _)) G1 G2 hW.out.tb
    (simp only [Act.put, List.setIfInBounds_toArray, List.set_cons_succ, List.set_cons_zero])
    refine wpL_A (by rfl) (by simp [Allocs, go_sem]; intro _ _; rfl) ?_
    intro _
    (simp only [Act.put, List.setIfInBounds_toArray, List.set_cons_succ, List.set_cons_zero])
    refine wpL_nil ?_
    clear H
    intro _ H
    go_wp2_with (first
        | ((with_reducible refine isStore ?_); refine stA H ?_; clear H; intro _ H))
    refine wp_region_E H (by kernel_rfl) (by kernel_rfl) ?_
    repeat (first
        | ((with_reducible refine kLoad ?_); refine kldA H ?_))
    refine wpK_step (fun K hK => ?_)
    go_simp
    apply Exists.intro
    refine ⟨fun sx => ?_, hK _ ?_⟩
    · go_at_call 35
      exact ROf_any (0) o _ (by decide) (by decide) Eo (H.out.tbx sx)
    clear hK K
    refine wpK_step (fun K hK => ?_)
    go_simp
    apply Exists.intro
    refine ⟨fun sx => ?_, hK _ ?_⟩
    · go_at_call 49
      exact spanHas_any (some p) (some q) (some o) true _ Sp Sq So B1 (H.out.tbx sx)
    clear hK K
    refine wpKeep_nil ?_
    clear H
    intro _ H
    go_wp2_with (first
        | go_skip)
    refine (ROf_any (0) o _ (by decide) (by decide) Eo H.out.tb).mono ?_
    rintro _ _ ⟨rfl, hb⟩
    replace H := Lib.hid (H.out.go hb)
    clear hb
    go_wp2_with (first
        | ((with_reducible refine isLoad ?_); refine ldA H ?_)
        | ((with_reducible refine isStore ?_); refine stA H ?_; clear H; intro _ H))
    exact bodyPost_ret (results_H H Tryd.results102 (by (first | exact rRat | exact rSpan | exact rPose | exact rFrame | exact rVec | exact rTurn | exact rBox)) rfl (by (repeat (first | exact List.Mem.head _ | refine List.Mem.tail _ ?_ | assumption))) (by rfl)) rfl ⟨by rw [Elo.out], H.out.bel⟩
  · have B1 : Hid (decide ((nmS (some p) (some q)).1 ≤ valO (some o) ∧ valO (some o) ≤ (nmS (some p) (some q)).2) = false) := by unfold Hid; rw [NPQ.out]; have h1 := Eo.out; subst h1; exact decide_eq_false B0
    have Elo : Hid (lo1 = lo) := by have h2 := F1.out; unfold sqL at h2; rw [if_neg B0] at h2; have h3 := G1.out; have h1 := Ex0.out; have h4 := Ex1.out; unfold Hid; rw [← h3, ← h1, ← h4]; exact h2
    clear B0
    go_enter Tryd.func102, Tryd.ntmps102
    go_wp2_with (first
        | ((with_reducible refine isLoad ?_); refine ldA H ?_)
        | ((with_reducible refine isBox ?_); refine bxA H ?_; clear H; intro _ _ H)
        | ((with_reducible refine isAlloc ?_); refine alA H ?_; clear H; intro _ _ H))
    refine (spanfit_any a b p q _ A.out.sa A.out.sb A.out.n H.out.tb).mono ?_
    rintro _ _ ⟨rfl, hb⟩
    replace H := Lib.hid (H.out.go hb)
    clear hb
    go_wp2_with (first
        | ((with_reducible refine isStore ?_); refine stA H ?_; clear H; intro _ H))
    refine wp_region_U 10 13 [.a, .q, .a] H (by kernel_rfl) (by kernel_rfl) (by kernel_rfl) (by decide) ?_
    simp only [List.take_succ_cons, List.take_zero, List.drop_succ_cons, List.drop_zero]
    repeat (first
        | ((with_reducible refine kLoad ?_); refine kldA H ?_)
        | ((fail_if_success (with_reducible refine kCall ?_)); (with_reducible refine kCons ?_); refine wpK_step (fun K hK => ?_); go_simp; refine hK _ ?_; clear hK K))
    refine wpK_step (fun K hK => ?_)
    go_simp
    apply Exists.intro
    refine ⟨fun sx => ?_, hK _ ?_⟩
    · go_at_call 86
      exact RMul_any (some p) (some p) x0 _ Sp Sp Ex0 (H.out.tbx sx)
    clear hK K
    repeat (first
        | ((with_reducible refine kLoad ?_); refine kldA H ?_)
        | ((fail_if_success (with_reducible refine kCall ?_)); (with_reducible refine kCons ?_); refine wpK_step (fun K hK => ?_); go_simp; refine hK _ ?_; clear hK K))
    refine wpK_step (fun K hK => ?_)
    go_simp
    apply Exists.intro
    refine ⟨fun sx => ?_, hK _ ?_⟩
    · go_at_call 86
      exact RMul_any (some q) (some q) x1 _ Sq Sq Ex1 (H.out.tbx sx)
    clear hK K
    refine wpKeep_nil ?_
    refine wpL_V 24 (ratC [x0, x1]) 2 (by rfl) rfl (by intro W; kernel_rfl) ?_
    intro _
    (simp only [Act.put, List.setIfInBounds_toArray, List.set_cons_succ, List.set_cons_zero])
    apply wpL_C (by rfl) (by (first | exact wanted_none rfl | exact wanted_some rfl rfl))
    · intro W hW
      unfold keepsAt
      go_simp
      go_at_call 107
      exact around_any (k := k + k) x0 [x1] 1 _ 24 lo1 hi _ (by omega) (by decide) (by decide) rfl ZA (hW.out.get (.head _)) G1 G2 hW.out.tb
    (simp only [Act.put, List.setIfInBounds_toArray, List.set_cons_succ, List.set_cons_zero])
    refine wpL_A (by rfl) (by simp [Allocs, go_sem]; intro _ _; rfl) ?_
    intro _
    (simp only [Act.put, List.setIfInBounds_toArray, List.set_cons_succ, List.set_cons_zero])
    refine wpL_nil ?_
    clear H
    intro _ H
    go_wp2_with (first
        | ((with_reducible refine isStore ?_); refine stA H ?_; clear H; intro _ H))
    refine wp_region_E H (by kernel_rfl) (by kernel_rfl) ?_
    repeat (first
        | ((with_reducible refine kLoad ?_); refine kldA H ?_))
    refine wpK_step (fun K hK => ?_)
    go_simp
    apply Exists.intro
    refine ⟨fun sx => ?_, hK _ ?_⟩
    · go_at_call 35
      exact ROf_any (0) o _ (by decide) (by decide) Eo (H.out.tbx sx)
    clear hK K
    refine wpK_step (fun K hK => ?_)
    go_simp
    apply Exists.intro
    refine ⟨fun sx => ?_, hK _ ?_⟩
    · go_at_call 49
      exact spanHas_any (some p) (some q) (some o) false _ Sp Sq So B1 (H.out.tbx sx)
    clear hK K
    refine wpKeep_nil ?_
    clear H
    intro _ H
    go_wp2_with (first
        | ((with_reducible refine isLoad ?_); refine ldA H ?_)
        | ((with_reducible refine isStore ?_); refine stA H ?_; clear H; intro _ H))
    exact bodyPost_ret (results_H H Tryd.results102 (by (first | exact rRat | exact rSpan | exact rPose | exact rFrame | exact rVec | exact rTurn | exact rBox)) rfl (by (repeat (first | exact List.Mem.head _ | refine List.Mem.tail _ ?_ | assumption))) (by rfl)) rfl ⟨by rw [Elo.out], H.out.bel⟩
end Go.Proofs.YtolekonocbeekaaDoor

namespace Go.Proofs.YtolekonocbeekaaDoor
open Go.RowKit
set_option linter.unusedVariables false
set_option maxRecDepth 100000

set_option maxHeartbeats 4000000 in
theorem spanSub_any {j k : Nat} (a b : Option Rat) (p q : Rat) (c d : Option Rat) (r s : Rat) (u : Rat) (v : Rat) (w : World) (hk : j + k ≤ 8000) (A : Hid (Spn j a b p q)) (C : Hid (Spn k c d r s)) (Eu : Hid (p - s = u)) (Ev : Hid (q - r = v)) (hT : Tb w) :
    Calls Tryd.prog 70 #[.agg #[.bool (sgO a), .string (nuO a), .string (deO a), .bool (sgO b), .string (nuO b), .string (deO b)], .agg #[.bool (sgO c), .string (nuO c), .string (deO c), .bool (sgO d), .string (nuO d), .string (deO d)]] w fun e w' => e = .returned (.agg #[.bool (sgO (some u)), .string (nuO (some u)), .string (deO (some u)), .bool (sgO (some v)), .string (nuO (some v)), .string (deO (some v))]) ∧ Below w.heap.size w w' := by
  have H := Lib.hid (Hp.start hT)
  clear hT
  have Zp : Hid (Sz j p) := A.out.zp
  have Sp : Hid (SmO (some p)) := Sz.o Zp (by omega)
  have Zq : Hid (Sz j q) := A.out.zq
  have Sq : Hid (SmO (some q)) := Sz.o Zq (by omega)
  have Zr : Hid (Sz k r) := C.out.zp
  have Sr : Hid (SmO (some r)) := Sz.o Zr (by omega)
  have Zs : Hid (Sz k s) := C.out.zq
  have Ss : Hid (SmO (some s)) := Sz.o Zs (by omega)
  have Zu : Hid (Sz (j + k + 1) u) := szEq Eu (Sz.sub Zp Zs)
  have Su : Hid (SmO (some u)) := Sz.o Zu (by omega)
  have Zv : Hid (Sz (j + k + 1) v) := szEq Ev (Sz.sub Zq Zr)
  have Sv : Hid (SmO (some v)) := Sz.o Zv (by omega)
  go_enter Tryd.func70, Tryd.ntmps70
  go_wp2_with (first
      | ((with_reducible refine isBox ?_); refine bxA H ?_; clear H; intro _ _ H)
      | ((with_reducible refine isAlloc ?_); refine alA H ?_; clear H; intro _ _ H))
  refine wp_region_T 4 H (by kernel_rfl) (by kernel_rfl) ?_
  simp only [List.take_succ_cons, List.take_zero, List.drop_succ_cons, List.drop_zero]
  repeat (first
      | ((with_reducible refine kLoad ?_); refine kldA H ?_))
  refine wpK_step (fun K hK => ?_)
  go_simp
  apply Exists.intro
  refine ⟨fun sx => ?_, hK _ ?_⟩
  · go_at_call 87
    exact spanfit_any a b p q _ A.out.sa A.out.sb A.out.n (H.out.tbx sx)
  clear hK K
  repeat (first
      | ((with_reducible refine kLoad ?_); refine kldA H ?_))
  refine wpK_step (fun K hK => ?_)
  go_simp
  apply Exists.intro
  refine ⟨fun sx => ?_, hK _ ?_⟩
  · go_at_call 87
    exact spanfit_any c d r s _ C.out.sa C.out.sb C.out.n (H.out.tbx sx)
  clear hK K
  refine wpKeep_nil ?_
  clear H
  intro _ H
  go_wp2_with (first
      | ((with_reducible refine isStore ?_); refine stA H ?_; clear H; intro _ H))
  refine wp_region_T 11 H (by kernel_rfl) (by kernel_rfl) ?_
  simp only [List.take_succ_cons, List.take_zero, List.drop_succ_cons, List.drop_zero]
  repeat (first
      | ((with_reducible refine kLoad ?_); refine kldA H ?_)
      | ((fail_if_success (with_reducible refine kCall ?_)); (with_reducible refine kCons ?_); refine wpK_step (fun K hK => ?_); go_simp; refine hK _ ?_; clear hK K))
  refine wpK_step (fun K hK => ?_)
  go_simp
  apply Exists.intro
  refine ⟨fun sx => ?_, hK _ ?_⟩
  · go_at_call 19
    exact RSub_any (some p) (some s) u _ Sp Ss Eu (H.out.tbx sx)
  clear hK K
  repeat (first
      | ((with_reducible refine kLoad ?_); refine kldA H ?_)
      | ((fail_if_success (with_reducible refine kCall ?_)); (with_reducible refine kCons ?_); refine wpK_step (fun K hK => ?_); go_simp; refine hK _ ?_; clear hK K))
  refine wpK_step (fun K hK => ?_)
  go_simp
  apply Exists.intro
  refine ⟨fun sx => ?_, hK _ ?_⟩
  · go_at_call 19
    exact RSub_any (some q) (some r) v _ Sq Sr Ev (H.out.tbx sx)
  clear hK K
  repeat (first
      | ((fail_if_success (with_reducible refine kCall ?_)); (with_reducible refine kCons ?_); refine wpK_step (fun K hK => ?_); go_simp; refine hK _ ?_; clear hK K))
  refine wpKeep_nil ?_
  clear H
  intro _ H
  go_wp2_with (first
      | ((with_reducible refine isStore ?_); refine stA H ?_; clear H; intro _ H))
  exact bodyPost_ret (results_H H Tryd.results70 (by (first | exact rRat | exact rSpan | exact rPose | exact rFrame | exact rVec | exact rTurn | exact rBox)) rfl (by (repeat (first | exact List.Mem.head _ | refine List.Mem.tail _ ?_ | assumption))) (by rfl)) rfl ⟨rfl, H.out.bel⟩
end Go.Proofs.YtolekonocbeekaaDoor

namespace Go.Proofs.YtolekonocbeekaaDoor
open Go.RowKit
set_option linter.unusedVariables false
set_option maxRecDepth 100000

set_option maxHeartbeats 4000000 in
theorem cosF_any {k : Nat} (r : Option Rat) (u : Rat) (w : World) (hk : k ≤ 4000) (Zr : Hid (SzO k r)) (Hn : Hid (0 ≤ valO r)) (Fu : Hid (cosF (valO r) = u)) (hT : Tb w) :
    Calls Tryd.prog 103 #[.agg #[.bool (sgO r), .string (nuO r), .string (deO r)]] w fun e w' => e = .returned (.agg #[.bool (sgO (some u)), .string (nuO (some u)), .string (deO (some u))]) ∧ Below w.heap.size w w' := by
  have H := Lib.hid (Hp.start hT)
  clear hT
  have Sr : Hid (SmO r) := SzO.sm Zr (by omega)
  obtain ⟨o, Eo⟩ : ∃ z : Rat, Hid (((1 : Int) : Rat) = z) := ⟨_, rfl⟩
  have Zo : Hid (Sz 3 o) := szEq Eo (Sz.int (1) (by decide))
  have So : Hid (SmO (some o)) := Sz.o Zo (by omega)
  obtain ⟨n, En⟩ : ∃ z : Rat, Hid (o - (valO r) = z) := ⟨_, rfl⟩
  have Zn : Hid (Sz (3 + k + 1) n) := szEq En (Sz.sub Zo Zr)
  have Sn : Hid (SmO (some n)) := Sz.o Zn (by omega)
  obtain ⟨d, Ed⟩ : ∃ z : Rat, Hid (o + (valO r) = z) := ⟨_, rfl⟩
  have Zd : Hid (Sz (3 + k + 1) d) := szEq Ed (Sz.add Zo Zr)
  have Sd : Hid (SmO (some d)) := Sz.o Zd (by omega)
  have Nd : Hid (valO (some d) ≠ 0) := by have h1 := Ed.out; have h3 := Eo.out; subst_vars; exact cosF_ne Hn
  have Eu : Hid (n / d = u) := by have h0 := Fu.out; have h1 := Eo.out; have h2 := En.out; have h3 := Ed.out; subst_vars; rfl
  have Zu : Hid (Sz ((3 + k + 1) + (3 + k + 1)) u) := szEq Eu (Sz.div Zn Zd Nd)
  have Su : Hid (SmO (some u)) := Sz.o Zu (by omega)
  go_enter Tryd.func103, Tryd.ntmps103
  go_wp2_with (first
      | ((with_reducible refine isBox ?_); refine bxA H ?_; clear H; intro _ _ H)
      | ((with_reducible refine isAlloc ?_); refine alA H ?_; clear H; intro _ _ H))
  refine wp_region_G (vs := [.bool (sgO (some u)), .string (nuO (some u)), .string (deO (some u))]) 10 H (by kernel_rfl) (by kernel_rfl) rfl rfl (by simp [Allocs, go_sem]; intro _ _; rfl) (by kernel_rfl) rfl rfl ?_
  simp only [List.take_succ_cons, List.take_zero, List.drop_succ_cons, List.drop_zero]
  refine wpK_step (fun K hK => ?_)
  go_simp
  apply Exists.intro
  refine ⟨fun sx => ?_, hK _ ?_⟩
  · go_at_call 35
    exact ROf_any (1) o _ (by decide) (by decide) Eo (H.out.tbx sx)
  clear hK K
  repeat (first
      | ((with_reducible refine kLoad ?_); refine kldA H ?_))
  refine wpK_step (fun K hK => ?_)
  go_simp
  apply Exists.intro
  refine ⟨fun sx => ?_, hK _ ?_⟩
  · go_at_call 19
    exact RSub_any (some o) r n _ So Sr En (H.out.tbx sx)
  clear hK K
  refine wpK_step (fun K hK => ?_)
  go_simp
  apply Exists.intro
  refine ⟨fun sx => ?_, hK _ ?_⟩
  · go_at_call 35
    exact ROf_any (1) o _ (by decide) (by decide) Eo (H.out.tbx sx)
  clear hK K
  repeat (first
      | ((with_reducible refine kLoad ?_); refine kldA H ?_))
  refine wpK_step (fun K hK => ?_)
  go_simp
  apply Exists.intro
  refine ⟨fun sx => ?_, hK _ ?_⟩
  · go_at_call 20
    exact RAdd_any (some o) r d _ So Sr Ed (H.out.tbx sx)
  clear hK K
  refine wpK_step (fun K hK => ?_)
  go_simp
  apply Exists.intro
  refine ⟨fun sx => ?_, hK _ ?_⟩
  · go_at_call 62
    exact RDiv_any (some n) (some d) u _ Sn Sd Nd Eu (H.out.tbx sx)
  clear hK K
  repeat (first
      | ((fail_if_success (with_reducible refine kCall ?_)); (with_reducible refine kCons ?_); refine wpK_step (fun K hK => ?_); go_simp; refine hK _ ?_; clear hK K))
  refine wpKeep_nil ?_
  intro _
  (simp only [Act.put, List.setIfInBounds_toArray, List.set_cons_succ, List.set_cons_zero])
  refine ⟨⟨⟨_, _, _, rfl, by (first | exact rRat | exact rSpan | exact rPose | exact rFrame | exact rVec | exact rTurn | exact rBox), rfl, rfl⟩, rfl, rfl, rfl, rfl⟩, ?_⟩
  clear H
  intro _ H
  go_wp2_with (first
      | ((with_reducible refine isLoad ?_); refine ldA H ?_)
      | ((with_reducible refine isStore ?_); refine stA H ?_; clear H; intro _ H))
  exact bodyPost_ret (results_H H Tryd.results103 (by (first | exact rRat | exact rSpan | exact rPose | exact rFrame | exact rVec | exact rTurn | exact rBox)) rfl (by (repeat (first | exact List.Mem.head _ | refine List.Mem.tail _ ?_ | assumption))) (by rfl)) rfl ⟨rfl, H.out.bel⟩
end Go.Proofs.YtolekonocbeekaaDoor

namespace Go.Proofs.YtolekonocbeekaaDoor
open Go.RowKit
set_option linter.unusedVariables false
set_option maxRecDepth 100000

set_option maxHeartbeats 4000000 in
theorem cosSpan_any {k : Nat} (a b : Option Rat) (p q : Rat) (u : Rat) (v : Rat) (w : World) (hk : k ≤ 900) (A : Hid (Spn k a b p q)) (Fu : Hid (csL p q = u)) (Fv : Hid (csH p q = v)) (hT : Tb w) :
    Calls Tryd.prog 66 #[.agg #[.bool (sgO a), .string (nuO a), .string (deO a), .bool (sgO b), .string (nuO b), .string (deO b)]] w fun e w' => e = .returned (.agg #[.bool (sgO (some u)), .string (nuO (some u)), .string (deO (some u)), .bool (sgO (some v)), .string (nuO (some v)), .string (deO (some v))]) ∧ Below w.heap.size w w' := by
  have H := Lib.hid (Hp.start hT)
  clear hT
  have Zp : Hid (Sz k p) := A.out.zp
  have Sp : Hid (SmO (some p)) := Sz.o Zp (by omega)
  have Zq : Hid (Sz k q) := A.out.zq
  have Sq : Hid (SmO (some q)) := Sz.o Zq (by omega)
  obtain ⟨l, El⟩ : ∃ z : Rat, Hid (sqL p q = z) := ⟨_, rfl⟩
  have Zl : Hid (Sz (k + k + 3) l) := szEq El (sqL_sz Zp Zq)
  have Sl : Hid (SmO (some l)) := Sz.o Zl (by omega)
  obtain ⟨h, Eh⟩ : ∃ z : Rat, Hid (sqH p q = z) := ⟨_, rfl⟩
  have Zh : Hid (Sz (k + k + 3) h) := szEq Eh (sqH_sz Zp Zq)
  have Sh : Hid (SmO (some h)) := Sz.o Zh (by omega)
  have Nl : Hid (0 ≤ valO (some l)) := by have := El.out; subst this; exact sqL_nn p q
  have Nh : Hid (0 ≤ valO (some h)) := by have := Eh.out; subst this; exact sqH_nn p q
  have Eu : Hid (cosF (valO (some h)) = u) := by have h0 := Fu.out; have h1 := El.out; have h2 := Eh.out; subst_vars; rfl
  have Ev : Hid (cosF (valO (some l)) = v) := by have h0 := Fv.out; have h1 := El.out; have h2 := Eh.out; subst_vars; rfl
  go_enter Tryd.func66, Tryd.ntmps66
  go_wp2_with (first
      | ((with_reducible refine isLoad ?_); refine ldA H ?_)
      | ((with_reducible refine isBox ?_); refine bxA H ?_; clear H; intro _ _ H)
      | ((with_reducible refine isAlloc ?_); refine alA H ?_; clear H; intro _ _ H))
  refine (spanSq_any a b p q l h _ (by omega) A El Eh H.out.tb).mono ?_
  rintro _ _ ⟨rfl, hb⟩
  replace H := Lib.hid (H.out.go hb)
  clear hb
  go_wp2_with (first
      | ((with_reducible refine isStore ?_); refine stA H ?_; clear H; intro _ H)
      | ((with_reducible refine isAlloc ?_); refine alA H ?_; clear H; intro _ _ H))
  refine wp_region_T 9 H (by kernel_rfl) (by kernel_rfl) ?_
  simp only [List.take_succ_cons, List.take_zero, List.drop_succ_cons, List.drop_zero]
  repeat (first
      | ((with_reducible refine kLoad ?_); refine kldA H ?_)
      | ((fail_if_success (with_reducible refine kCall ?_)); (with_reducible refine kCons ?_); refine wpK_step (fun K hK => ?_); go_simp; refine hK _ ?_; clear hK K))
  refine wpK_step (fun K hK => ?_)
  go_simp
  apply Exists.intro
  refine ⟨fun sx => ?_, hK _ ?_⟩
  · go_at_call 103
    exact cosF_any (some h) u _ (by omega) Zh Nh Eu (H.out.tbx sx)
  clear hK K
  repeat (first
      | ((with_reducible refine kLoad ?_); refine kldA H ?_)
      | ((fail_if_success (with_reducible refine kCall ?_)); (with_reducible refine kCons ?_); refine wpK_step (fun K hK => ?_); go_simp; refine hK _ ?_; clear hK K))
  refine wpK_step (fun K hK => ?_)
  go_simp
  apply Exists.intro
  refine ⟨fun sx => ?_, hK _ ?_⟩
  · go_at_call 103
    exact cosF_any (some l) v _ (by omega) Zl Nl Ev (H.out.tbx sx)
  clear hK K
  repeat (first
      | ((fail_if_success (with_reducible refine kCall ?_)); (with_reducible refine kCons ?_); refine wpK_step (fun K hK => ?_); go_simp; refine hK _ ?_; clear hK K))
  refine wpKeep_nil ?_
  clear H
  intro _ H
  go_wp2_with (first
      | ((with_reducible refine isStore ?_); refine stA H ?_; clear H; intro _ H))
  exact bodyPost_ret (results_H H Tryd.results66 (by (first | exact rRat | exact rSpan | exact rPose | exact rFrame | exact rVec | exact rTurn | exact rBox)) rfl (by (repeat (first | exact List.Mem.head _ | refine List.Mem.tail _ ?_ | assumption))) (by rfl)) rfl ⟨rfl, H.out.bel⟩
end Go.Proofs.YtolekonocbeekaaDoor

namespace Go.Proofs.YtolekonocbeekaaDoor
open Go.RowKit
set_option linter.unusedVariables false
set_option maxRecDepth 100000

set_option maxHeartbeats 4000000 in
theorem halfTurn_any {k : Nat} (o : Rat) (w : World) (hk : k ≤ 200) (Eo : Hid (((0 : Int) : Rat) = o)) (hT : Tb w) :
    Calls Tryd.prog 112 #[] w fun e w' => e = .returned (.agg #[.bool true, .bool (sgO (some o)), .string (nuO (some o)), .string (deO (some o))]) ∧ Below w.heap.size w w' := by
  have H := Lib.hid (Hp.start hT)
  clear hT
  go_enter Tryd.func112, Tryd.ntmps112
  go_wp2_with (first
      | ((with_reducible refine isAlloc ?_); refine alA H ?_; clear H; intro _ _ H))
  refine (ROf_any 0 o _ (by decide) (by decide) Eo H.out.tb).mono ?_
  rintro _ _ ⟨rfl, hb⟩
  replace H := Lib.hid (H.out.go hb)
  clear hb
  go_wp2_with (first
      | ((with_reducible refine isStore ?_); refine stA H ?_; clear H; intro _ H))
  exact bodyPost_ret (results_H H Tryd.results112 (by (first | exact rRat | exact rSpan | exact rPose | exact rFrame | exact rVec | exact rTurn | exact rBox)) rfl (by (repeat (first | exact List.Mem.head _ | refine List.Mem.tail _ ?_ | assumption))) (by rfl)) rfl ⟨rfl, H.out.bel⟩
end Go.Proofs.YtolekonocbeekaaDoor

namespace Go.Proofs.YtolekonocbeekaaDoor
open Go.RowKit
set_option linter.unusedVariables false
set_option maxRecDepth 100000

set_option maxHeartbeats 4000000 in
theorem turnOf_any {k : Nat} (r : Option Rat) (v : Rat) (w : World) (hk : k ≤ 9000) (Zr : Hid (SzO k r)) (Ev : Hid (valO r = v)) (hT : Tb w) :
    Calls Tryd.prog 106 #[.agg #[.bool (sgO r), .string (nuO r), .string (deO r)]] w fun e w' => e = .returned (.agg #[.bool false, .bool (sgO (some v)), .string (nuO (some v)), .string (deO (some v))]) ∧ Below w.heap.size w w' := by
  have H := Lib.hid (Hp.start hT)
  clear hT
  have Sr : Hid (SmO r) := SzO.sm Zr (by omega)
  have Zv : Hid (Sz k v) := szEq Ev (Zr)
  have Sv : Hid (SmO (some v)) := Sz.o Zv (by omega)
  have M : Hid (mn (valO r) (valO r) = v) := by unfold Hid; rw [mn_self]; exact Ev.out
  go_enter Tryd.func106, Tryd.ntmps106
  go_wp2_with (first
      | ((with_reducible refine isLoad ?_); refine ldA H ?_)
      | ((with_reducible refine isBox ?_); refine bxA H ?_; clear H; intro _ _ H)
      | ((with_reducible refine isAlloc ?_); refine alA H ?_; clear H; intro _ _ H))
  refine (RMin_any r r v _ Sr Sr M H.out.tb).mono ?_
  rintro _ _ ⟨rfl, hb⟩
  replace H := Lib.hid (H.out.go hb)
  clear hb
  go_wp2_with (first
      | ((with_reducible refine isStore ?_); refine stA H ?_; clear H; intro _ H))
  exact bodyPost_ret (results_H H Tryd.results106 (by (first | exact rRat | exact rSpan | exact rPose | exact rFrame | exact rVec | exact rTurn | exact rBox)) rfl (by (repeat (first | exact List.Mem.head _ | refine List.Mem.tail _ ?_ | assumption))) (by rfl)) rfl ⟨rfl, H.out.bel⟩
end Go.Proofs.YtolekonocbeekaaDoor

namespace Go.Proofs.YtolekonocbeekaaDoor
open Go.RowKit
set_option linter.unusedVariables false
set_option maxRecDepth 100000

set_option maxHeartbeats 4000000 in
theorem frameZero_any {k : Nat} (o : Rat) (w : World) (hk : k ≤ 200) (Eo : Hid (((0 : Int) : Rat) = o)) (hT : Tb w) :
    Calls Tryd.prog 83 #[] w fun e w' => e = .returned (.agg #[.bool (sgO (some o)), .string (nuO (some o)), .string (deO (some o)), .bool (sgO (some o)), .string (nuO (some o)), .string (deO (some o)), .bool false, .bool (sgO (some o)), .string (nuO (some o)), .string (deO (some o))]) ∧ Below w.heap.size w w' := by
  have H := Lib.hid (Hp.start hT)
  clear hT
  have Zo : Hid (Sz 3 o) := szEq Eo (Sz.int 0 (by decide))
  have So : Hid (SmO (some o)) := Sz.o Zo (by omega)
  have Eo2 : Hid (valO (some o) = o) := rfl
  go_enter Tryd.func83, Tryd.ntmps83
  go_wp2_with (first
      | ((with_reducible refine isAlloc ?_); refine alA H ?_; clear H; intro _ _ H))
  refine (ROf_any 0 o _ (by decide) (by decide) Eo H.out.tb).mono ?_
  rintro _ _ ⟨rfl, hb⟩
  replace H := Lib.hid (H.out.go hb)
  clear hb
  go_wp2_with (first
      | ((with_reducible refine isStore ?_); refine stA H ?_; clear H; intro _ H)
      | ((with_reducible refine isAlloc ?_); refine alA H ?_; clear H; intro _ _ H))
  refine wp_region_T 6 H (by kernel_rfl) (by kernel_rfl) ?_
  simp only [List.take_succ_cons, List.take_zero, List.drop_succ_cons, List.drop_zero]
  repeat (first
      | ((with_reducible refine kLoad ?_); refine kldA H ?_)
      | ((fail_if_success (with_reducible refine kCall ?_)); (with_reducible refine kCons ?_); refine wpK_step (fun K hK => ?_); go_simp; refine hK _ ?_; clear hK K))
  refine wpK_step (fun K hK => ?_)
  go_simp
  apply Exists.intro
  refine ⟨fun sx => ?_, hK _ ?_⟩
  · go_at_call 106
    exact turnOf_any (some o) o _ (by omega) Zo Eo2 (H.out.tbx sx)
  clear hK K
  repeat (first
      | ((fail_if_success (with_reducible refine kCall ?_)); (with_reducible refine kCons ?_); refine wpK_step (fun K hK => ?_); go_simp; refine hK _ ?_; clear hK K))
  refine wpKeep_nil ?_
  clear H
  intro _ H
  go_wp2_with (first
      | ((with_reducible refine isStore ?_); refine stA H ?_; clear H; intro _ H))
  exact bodyPost_ret (results_H H Tryd.results83 (by (first | exact rRat | exact rSpan | exact rPose | exact rFrame | exact rVec | exact rTurn | exact rBox)) rfl (by (repeat (first | exact List.Mem.head _ | refine List.Mem.tail _ ?_ | assumption))) (by rfl)) rfl ⟨rfl, H.out.bel⟩
end Go.Proofs.YtolekonocbeekaaDoor

namespace Go.Proofs.YtolekonocbeekaaDoor
open Go.RowKit
set_option linter.unusedVariables false
set_option maxRecDepth 100000

set_option maxHeartbeats 4000000 in
theorem turnFit_any {k : Nat} (r : Option Rat) (v : Rat) (w : World) (hk : k ≤ 9000) (Zr : Hid (SzO k r)) (Ev : Hid (valO r = v)) (hT : Tb w) :
    Calls Tryd.prog 110 #[.agg #[.bool false, .bool (sgO r), .string (nuO r), .string (deO r)]] w fun e w' => e = .returned (.agg #[.bool false, .bool (sgO (some v)), .string (nuO (some v)), .string (deO (some v))]) ∧ Below w.heap.size w w' := by
  have H := Lib.hid (Hp.start hT)
  clear hT
  have Sr : Hid (SmO r) := SzO.sm Zr (by omega)
  have Zv : Hid (Sz k v) := szEq Ev (Zr)
  have Sv : Hid (SmO (some v)) := Sz.o Zv (by omega)
  go_enter Tryd.func110, Tryd.ntmps110
  go_wp2_with (first
      | ((with_reducible refine isLoad ?_); refine ldA H ?_)
      | ((with_reducible refine isLoad ?_); refine ld1A H ?_)
      | ((with_reducible refine isBox ?_); refine bxA H ?_; clear H; intro _ _ H)
      | ((with_reducible refine isAlloc ?_); refine alA H ?_; clear H; intro _ _ H))
  refine (turnOf_any r v _ (by omega) Zr Ev H.out.tb).mono ?_
  rintro _ _ ⟨rfl, hb⟩
  replace H := Lib.hid (H.out.go hb)
  clear hb
  go_wp2_with (first
      | ((with_reducible refine isStore ?_); refine stA H ?_; clear H; intro _ H))
  exact bodyPost_ret (results_H H Tryd.results110 (by (first | exact rRat | exact rSpan | exact rPose | exact rFrame | exact rVec | exact rTurn | exact rBox)) rfl (by (repeat (first | exact List.Mem.head _ | refine List.Mem.tail _ ?_ | assumption))) (by rfl)) rfl ⟨rfl, H.out.bel⟩
end Go.Proofs.YtolekonocbeekaaDoor

namespace Go.Proofs.YtolekonocbeekaaDoor
open Go.RowKit
set_option linter.unusedVariables false
set_option maxRecDepth 100000

set_option maxHeartbeats 4000000 in
theorem turnBack_any {k : Nat} (r : Option Rat) (n : Rat) (w : World) (hk : k ≤ 1000) (Zr : Hid (SzO k r)) (Fn : Hid (-(valO r) = n)) (hT : Tb w) :
    Calls Tryd.prog 81 #[.agg #[.bool false, .bool (sgO r), .string (nuO r), .string (deO r)]] w fun e w' => e = .returned (.agg #[.bool false, .bool (sgO (some n)), .string (nuO (some n)), .string (deO (some n))]) ∧ Below w.heap.size w w' := by
  have H := Lib.hid (Hp.start hT)
  clear hT
  have Sr : Hid (SmO r) := SzO.sm Zr (by omega)
  obtain ⟨v, Ev⟩ : ∃ z : Rat, Hid (valO r = z) := ⟨_, rfl⟩
  have Zv : Hid (Sz k v) := szEq Ev (Zr)
  have Sv : Hid (SmO (some v)) := Sz.o Zv (by omega)
  have En : Hid (-v = n) := by have h0 := Fn.out; have h1 := Ev.out; subst_vars; rfl
  have Zn : Hid (Sz k n) := szEq En (Sz.neg Zv)
  have Sn : Hid (SmO (some n)) := Sz.o Zn (by omega)
  go_enter Tryd.func81, Tryd.ntmps81
  go_wp2_with (first
      | ((with_reducible refine isLoad ?_); refine ldA H ?_)
      | ((with_reducible refine isBox ?_); refine bxA H ?_; clear H; intro _ _ H)
      | ((with_reducible refine isAlloc ?_); refine alA H ?_; clear H; intro _ _ H))
  refine (turnFit_any r v _ (by omega) Zr Ev H.out.tb).mono ?_
  rintro _ _ ⟨rfl, hb⟩
  replace H := Lib.hid (H.out.go hb)
  clear hb
  go_wp2_with (first
      | ((with_reducible refine isLoad ?_); refine ldA H ?_)
      | ((with_reducible refine isStore ?_); refine stA H ?_; clear H; intro _ H))
  refine (RNeg_any (some v) n _ Sv En H.out.tb).mono ?_
  rintro _ _ ⟨rfl, hb⟩
  replace H := Lib.hid (H.out.go hb)
  clear hb
  go_wp2_with (first
      | ((with_reducible refine isLoad ?_); refine ldA H ?_)
      | ((with_reducible refine isStore ?_); refine stA H ?_; clear H; intro _ H))
  exact bodyPost_ret (results_H H Tryd.results81 (by (first | exact rRat | exact rSpan | exact rPose | exact rFrame | exact rVec | exact rTurn | exact rBox)) rfl (by (repeat (first | exact List.Mem.head _ | refine List.Mem.tail _ ?_ | assumption))) (by rfl)) rfl ⟨rfl, H.out.bel⟩
end Go.Proofs.YtolekonocbeekaaDoor

namespace Go.Proofs.YtolekonocbeekaaDoor
open Go.RowKit
set_option linter.unusedVariables false
set_option maxRecDepth 100000

set_option maxHeartbeats 4000000 in
theorem turnCos_any {k : Nat} (r : Option Rat) (u : Rat) (w : World) (hk : k ≤ 1000) (Zr : Hid (SzO k r)) (Fu : Hid (cosQ (valO r) = u)) (hT : Tb w) :
    Calls Tryd.prog 108 #[.agg #[.bool false, .bool (sgO r), .string (nuO r), .string (deO r)]] w fun e w' => e = .returned (.agg #[.bool (sgO (some u)), .string (nuO (some u)), .string (deO (some u))]) ∧ Below w.heap.size w w' := by
  have H := Lib.hid (Hp.start hT)
  clear hT
  have Sr : Hid (SmO r) := SzO.sm Zr (by omega)
  obtain ⟨v, Ev⟩ : ∃ z : Rat, Hid (valO r = z) := ⟨_, rfl⟩
  have Zv : Hid (Sz k v) := szEq Ev (Zr)
  have Sv : Hid (SmO (some v)) := Sz.o Zv (by omega)
  obtain ⟨qq, Eqq⟩ : ∃ z : Rat, Hid (v * v = z) := ⟨_, rfl⟩
  have Zqq : Hid (Sz (k + k) qq) := szEq Eqq (Sz.mul Zv Zv)
  have Sqq : Hid (SmO (some qq)) := Sz.o Zqq (by omega)
  obtain ⟨o, Eo⟩ : ∃ z : Rat, Hid (((1 : Int) : Rat) = z) := ⟨_, rfl⟩
  have Zo : Hid (Sz 3 o) := szEq Eo (Sz.int (1) (by decide))
  have So : Hid (SmO (some o)) := Sz.o Zo (by omega)
  obtain ⟨n, En⟩ : ∃ z : Rat, Hid (o - qq = z) := ⟨_, rfl⟩
  have Zn : Hid (Sz (3 + (k + k) + 1) n) := szEq En (Sz.sub Zo Zqq)
  have Sn : Hid (SmO (some n)) := Sz.o Zn (by omega)
  obtain ⟨d, Ed⟩ : ∃ z : Rat, Hid (o + qq = z) := ⟨_, rfl⟩
  have Zd : Hid (Sz (3 + (k + k) + 1) d) := szEq Ed (Sz.add Zo Zqq)
  have Sd : Hid (SmO (some d)) := Sz.o Zd (by omega)
  have Nd : Hid (valO (some d) ≠ 0) := by have h1 := Eqq.out; have h2 := Ed.out; have h3 := Eo.out; subst_vars; exact onesq_ne _
  have Eu : Hid (n / d = u) := by have h0 := Fu.out; have h1 := Ev.out; have h2 := Eqq.out; have h3 := Eo.out; have h4 := En.out; have h5 := Ed.out; subst_vars; rfl
  have Zu : Hid (Sz ((3 + (k + k) + 1) + (3 + (k + k) + 1)) u) := szEq Eu (Sz.div Zn Zd Nd)
  have Su : Hid (SmO (some u)) := Sz.o Zu (by omega)
  go_enter Tryd.func108, Tryd.ntmps108
  go_wp2_with (first
      | ((with_reducible refine isLoad ?_); refine ldA H ?_)
      | ((with_reducible refine isBox ?_); refine bxA H ?_; clear H; intro _ _ H)
      | ((with_reducible refine isAlloc ?_); refine alA H ?_; clear H; intro _ _ H))
  refine (turnFit_any r v _ (by omega) Zr Ev H.out.tb).mono ?_
  rintro _ _ ⟨rfl, hb⟩
  replace H := Lib.hid (H.out.go hb)
  clear hb
  go_wp2_with (first
      | ((with_reducible refine isLoad ?_); refine ldA H ?_)
      | ((with_reducible refine isLoad ?_); refine ld1A H ?_)
      | ((with_reducible refine isStore ?_); refine stA H ?_; clear H; intro _ H))
  refine (RMul_any (some v) (some v) qq _ Sv Sv Eqq H.out.tb).mono ?_
  rintro _ _ ⟨rfl, hb⟩
  replace H := Lib.hid (H.out.go hb)
  clear hb
  go_wp2_with (first
      | ((with_reducible refine isStore ?_); refine stA H ?_; clear H; intro _ H)
      | ((with_reducible refine isAlloc ?_); refine alA H ?_; clear H; intro _ _ H))
  refine wp_region_G (vs := [.bool (sgO (some u)), .string (nuO (some u)), .string (deO (some u))]) 10 H (by kernel_rfl) (by kernel_rfl) rfl rfl (by simp [Allocs, go_sem]; intro _ _; rfl) (by kernel_rfl) rfl rfl ?_
  simp only [List.take_succ_cons, List.take_zero, List.drop_succ_cons, List.drop_zero]
  refine wpK_step (fun K hK => ?_)
  go_simp
  apply Exists.intro
  refine ⟨fun sx => ?_, hK _ ?_⟩
  · go_at_call 35
    exact ROf_any (1) o _ (by decide) (by decide) Eo (H.out.tbx sx)
  clear hK K
  repeat (first
      | ((with_reducible refine kLoad ?_); refine kldA H ?_))
  refine wpK_step (fun K hK => ?_)
  go_simp
  apply Exists.intro
  refine ⟨fun sx => ?_, hK _ ?_⟩
  · go_at_call 19
    exact RSub_any (some o) (some qq) n _ So Sqq En (H.out.tbx sx)
  clear hK K
  refine wpK_step (fun K hK => ?_)
  go_simp
  apply Exists.intro
  refine ⟨fun sx => ?_, hK _ ?_⟩
  · go_at_call 35
    exact ROf_any (1) o _ (by decide) (by decide) Eo (H.out.tbx sx)
  clear hK K
  repeat (first
      | ((with_reducible refine kLoad ?_); refine kldA H ?_))
  refine wpK_step (fun K hK => ?_)
  go_simp
  apply Exists.intro
  refine ⟨fun sx => ?_, hK _ ?_⟩
  · go_at_call 20
    exact RAdd_any (some o) (some qq) d _ So Sqq Ed (H.out.tbx sx)
  clear hK K
  refine wpK_step (fun K hK => ?_)
  go_simp
  apply Exists.intro
  refine ⟨fun sx => ?_, hK _ ?_⟩
  · go_at_call 62
    exact RDiv_any (some n) (some d) u _ Sn Sd Nd Eu (H.out.tbx sx)
  clear hK K
  repeat (first
      | ((fail_if_success (with_reducible refine kCall ?_)); (with_reducible refine kCons ?_); refine wpK_step (fun K hK => ?_); go_simp; refine hK _ ?_; clear hK K))
  refine wpKeep_nil ?_
  intro _
  (simp only [Act.put, List.setIfInBounds_toArray, List.set_cons_succ, List.set_cons_zero])
  refine ⟨⟨⟨_, _, _, rfl, by (first | exact rRat | exact rSpan | exact rPose | exact rFrame | exact rVec | exact rTurn | exact rBox), rfl, rfl⟩, rfl, rfl, rfl, rfl⟩, ?_⟩
  clear H
  intro _ H
  go_wp2_with (first
      | ((with_reducible refine isLoad ?_); refine ldA H ?_)
      | ((with_reducible refine isStore ?_); refine stA H ?_; clear H; intro _ H))
  exact bodyPost_ret (results_H H Tryd.results108 (by (first | exact rRat | exact rSpan | exact rPose | exact rFrame | exact rVec | exact rTurn | exact rBox)) rfl (by (repeat (first | exact List.Mem.head _ | refine List.Mem.tail _ ?_ | assumption))) (by rfl)) rfl ⟨rfl, H.out.bel⟩
end Go.Proofs.YtolekonocbeekaaDoor

namespace Go.Proofs.YtolekonocbeekaaDoor
open Go.RowKit
set_option linter.unusedVariables false
set_option maxRecDepth 100000

set_option maxHeartbeats 4000000 in
theorem turnSin_any {k : Nat} (r : Option Rat) (u : Rat) (w : World) (hk : k ≤ 1000) (Zr : Hid (SzO k r)) (Fu : Hid (sinQ (valO r) = u)) (hT : Tb w) :
    Calls Tryd.prog 105 #[.agg #[.bool false, .bool (sgO r), .string (nuO r), .string (deO r)]] w fun e w' => e = .returned (.agg #[.bool (sgO (some u)), .string (nuO (some u)), .string (deO (some u))]) ∧ Below w.heap.size w w' := by
  have H := Lib.hid (Hp.start hT)
  clear hT
  have Sr : Hid (SmO r) := SzO.sm Zr (by omega)
  obtain ⟨v, Ev⟩ : ∃ z : Rat, Hid (valO r = z) := ⟨_, rfl⟩
  have Zv : Hid (Sz k v) := szEq Ev (Zr)
  have Sv : Hid (SmO (some v)) := Sz.o Zv (by omega)
  obtain ⟨m, Em⟩ : ∃ z : Rat, Hid (v + v = z) := ⟨_, rfl⟩
  have Zm : Hid (Sz (k + k + 1) m) := szEq Em (Sz.add Zv Zv)
  have Sm : Hid (SmO (some m)) := Sz.o Zm (by omega)
  obtain ⟨o, Eo⟩ : ∃ z : Rat, Hid (((1 : Int) : Rat) = z) := ⟨_, rfl⟩
  have Zo : Hid (Sz 3 o) := szEq Eo (Sz.int (1) (by decide))
  have So : Hid (SmO (some o)) := Sz.o Zo (by omega)
  obtain ⟨qq, Eqq⟩ : ∃ z : Rat, Hid (v * v = z) := ⟨_, rfl⟩
  have Zqq : Hid (Sz (k + k) qq) := szEq Eqq (Sz.mul Zv Zv)
  have Sqq : Hid (SmO (some qq)) := Sz.o Zqq (by omega)
  obtain ⟨d, Ed⟩ : ∃ z : Rat, Hid (o + qq = z) := ⟨_, rfl⟩
  have Zd : Hid (Sz (3 + (k + k) + 1) d) := szEq Ed (Sz.add Zo Zqq)
  have Sd : Hid (SmO (some d)) := Sz.o Zd (by omega)
  have Nd : Hid (valO (some d) ≠ 0) := by have h1 := Eqq.out; have h2 := Ed.out; have h3 := Eo.out; subst_vars; exact onesq_ne _
  have Eu : Hid (m / d = u) := by have h0 := Fu.out; have h1 := Ev.out; have h2 := Em.out; have h3 := Eo.out; have h4 := Eqq.out; have h5 := Ed.out; subst_vars; rfl
  have Zu : Hid (Sz ((k + k + 1) + (3 + (k + k) + 1)) u) := szEq Eu (Sz.div Zm Zd Nd)
  have Su : Hid (SmO (some u)) := Sz.o Zu (by omega)
  go_enter Tryd.func105, Tryd.ntmps105
  go_wp2_with (first
      | ((with_reducible refine isLoad ?_); refine ldA H ?_)
      | ((with_reducible refine isBox ?_); refine bxA H ?_; clear H; intro _ _ H)
      | ((with_reducible refine isAlloc ?_); refine alA H ?_; clear H; intro _ _ H))
  refine (turnFit_any r v _ (by omega) Zr Ev H.out.tb).mono ?_
  rintro _ _ ⟨rfl, hb⟩
  replace H := Lib.hid (H.out.go hb)
  clear hb
  go_wp2_with (first
      | ((with_reducible refine isStore ?_); refine stA H ?_; clear H; intro _ H))
  refine wp_region_G (vs := [.bool (sgO (some u)), .string (nuO (some u)), .string (deO (some u))]) 16 H (by kernel_rfl) (by kernel_rfl) rfl rfl (by simp [Allocs, go_sem]; intro _ _; rfl) (by kernel_rfl) rfl rfl ?_
  simp only [List.take_succ_cons, List.take_zero, List.drop_succ_cons, List.drop_zero]
  repeat (first
      | ((with_reducible refine kLoad ?_); refine kldA H ?_)
      | ((fail_if_success (with_reducible refine kCall ?_)); (with_reducible refine kCons ?_); refine wpK_step (fun K hK => ?_); go_simp; refine hK _ ?_; clear hK K))
  refine wpK_step (fun K hK => ?_)
  go_simp
  apply Exists.intro
  refine ⟨fun sx => ?_, hK _ ?_⟩
  · go_at_call 20
    exact RAdd_any (some v) (some v) m _ Sv Sv Em (H.out.tbx sx)
  clear hK K
  refine wpK_step (fun K hK => ?_)
  go_simp
  apply Exists.intro
  refine ⟨fun sx => ?_, hK _ ?_⟩
  · go_at_call 35
    exact ROf_any (1) o _ (by decide) (by decide) Eo (H.out.tbx sx)
  clear hK K
  repeat (first
      | ((with_reducible refine kLoad ?_); refine kldA H ?_)
      | ((fail_if_success (with_reducible refine kCall ?_)); (with_reducible refine kCons ?_); refine wpK_step (fun K hK => ?_); go_simp; refine hK _ ?_; clear hK K))
  refine wpK_step (fun K hK => ?_)
  go_simp
  apply Exists.intro
  refine ⟨fun sx => ?_, hK _ ?_⟩
  · go_at_call 86
    exact RMul_any (some v) (some v) qq _ Sv Sv Eqq (H.out.tbx sx)
  clear hK K
  refine wpK_step (fun K hK => ?_)
  go_simp
  apply Exists.intro
  refine ⟨fun sx => ?_, hK _ ?_⟩
  · go_at_call 20
    exact RAdd_any (some o) (some qq) d _ So Sqq Ed (H.out.tbx sx)
  clear hK K
  refine wpK_step (fun K hK => ?_)
  go_simp
  apply Exists.intro
  refine ⟨fun sx => ?_, hK _ ?_⟩
  · go_at_call 62
    exact RDiv_any (some m) (some d) u _ Sm Sd Nd Eu (H.out.tbx sx)
  clear hK K
  repeat (first
      | ((fail_if_success (with_reducible refine kCall ?_)); (with_reducible refine kCons ?_); refine wpK_step (fun K hK => ?_); go_simp; refine hK _ ?_; clear hK K))
  refine wpKeep_nil ?_
  intro _
  (simp only [Act.put, List.setIfInBounds_toArray, List.set_cons_succ, List.set_cons_zero])
  refine ⟨⟨⟨_, _, _, rfl, by (first | exact rRat | exact rSpan | exact rPose | exact rFrame | exact rVec | exact rTurn | exact rBox), rfl, rfl⟩, rfl, rfl, rfl, rfl⟩, ?_⟩
  clear H
  intro _ H
  go_wp2_with (first
      | ((with_reducible refine isLoad ?_); refine ldA H ?_)
      | ((with_reducible refine isStore ?_); refine stA H ?_; clear H; intro _ H))
  exact bodyPost_ret (results_H H Tryd.results105 (by (first | exact rRat | exact rSpan | exact rPose | exact rFrame | exact rVec | exact rTurn | exact rBox)) rfl (by (repeat (first | exact List.Mem.head _ | refine List.Mem.tail _ ?_ | assumption))) (by rfl)) rfl ⟨rfl, H.out.bel⟩
end Go.Proofs.YtolekonocbeekaaDoor

namespace Go.Proofs.YtolekonocbeekaaDoor
open Go.RowKit
set_option linter.unusedVariables false
set_option maxRecDepth 100000

set_option maxHeartbeats 4000000 in
theorem rotate_any {j k : Nat} (a b : Option Rat) (p q : Rat) (c d : Option Rat) (r s : Rat) (o : Option Rat) (xl : Rat) (xh : Rat) (yl : Rat) (yh : Rat) (w : World) (hk : k ≤ 2500 ∧ j ≤ 100) (A : Hid (Spn k a b p q)) (B : Hid (Spn k c d r s)) (Zo : Hid (SzO j o)) (Fxl : Hid (rtXL (valO o) p q r s = xl)) (Fxh : Hid (rtXH (valO o) p q r s = xh)) (Fyl : Hid (rtYL (valO o) p q r s = yl)) (Fyh : Hid (rtYH (valO o) p q r s = yh)) (hT : Tb w) :
    Calls Tryd.prog 85 #[.agg #[.bool (sgO a), .string (nuO a), .string (deO a), .bool (sgO b), .string (nuO b), .string (deO b)], .agg #[.bool (sgO c), .string (nuO c), .string (deO c), .bool (sgO d), .string (nuO d), .string (deO d)], .agg #[.bool false, .bool (sgO o), .string (nuO o), .string (deO o)]] w fun e w' => e = .returned (.tuple #[.agg #[.bool (sgO (some xl)), .string (nuO (some xl)), .string (deO (some xl)), .bool (sgO (some xh)), .string (nuO (some xh)), .string (deO (some xh))], .agg #[.bool (sgO (some yl)), .string (nuO (some yl)), .string (deO (some yl)), .bool (sgO (some yh)), .string (nuO (some yh)), .string (deO (some yh))]]) ∧ Below w.heap.size w w' := by
  have H := Lib.hid (Hp.start hT)
  clear hT
  have Zp : Hid (Sz k p) := A.out.zp
  have Sp : Hid (SmO (some p)) := Sz.o Zp (by omega)
  have Zq : Hid (Sz k q) := A.out.zq
  have Sq : Hid (SmO (some q)) := Sz.o Zq (by omega)
  have Zr : Hid (Sz k r) := B.out.zp
  have Sr : Hid (SmO (some r)) := Sz.o Zr (by omega)
  have Zs : Hid (Sz k s) := B.out.zq
  have Ss : Hid (SmO (some s)) := Sz.o Zs (by omega)
  have So : Hid (SmO o) := SzO.sm Zo (by omega)
  obtain ⟨cc, Ecc⟩ : ∃ z : Rat, Hid (cosQ (valO o) = z) := ⟨_, rfl⟩
  have Zcc : Hid (Sz (4 * j + 8) cc) := szEq Ecc (Sz.cosQ Zo)
  have Scc : Hid (SmO (some cc)) := Sz.o Zcc (by omega)
  obtain ⟨ss, Ess⟩ : ∃ z : Rat, Hid (sinQ (valO o) = z) := ⟨_, rfl⟩
  have Zss : Hid (Sz (4 * j + 8) ss) := szEq Ess (Sz.sinQ Zo)
  have Sss : Hid (SmO (some ss)) := Sz.o Zss (by omega)
  have C : Hid (Spn (4 * j + 8) (some cc) (some cc) cc cc) := Spn.of Zcc (by omega)
  have D : Hid (Spn (4 * j + 8) (some ss) (some ss) ss ss) := Spn.of Zss (by omega)
  obtain ⟨u1, Eu1⟩ : ∃ z : Rat, Hid (mulL cc cc p q = z) := ⟨_, rfl⟩
  obtain ⟨v1, Ev1⟩ : ∃ z : Rat, Hid (mulH cc cc p q = z) := ⟨_, rfl⟩
  have M1 : Hid (Spn ((4 * j + 8) + k) (some u1) (some v1) u1 v1) := Spn.mul C.out A.out Eu1.out Ev1.out (by omega)
  have Zu1 : Hid (Sz ((4 * j + 8) + k) u1) := M1.out.zp
  have Su1 : Hid (SmO (some u1)) := Sz.o Zu1 (by omega)
  have Zv1 : Hid (Sz ((4 * j + 8) + k) v1) := M1.out.zq
  have Sv1 : Hid (SmO (some v1)) := Sz.o Zv1 (by omega)
  obtain ⟨u2, Eu2⟩ : ∃ z : Rat, Hid (mulL ss ss r s = z) := ⟨_, rfl⟩
  obtain ⟨v2, Ev2⟩ : ∃ z : Rat, Hid (mulH ss ss r s = z) := ⟨_, rfl⟩
  have M2 : Hid (Spn ((4 * j + 8) + k) (some u2) (some v2) u2 v2) := Spn.mul D.out B.out Eu2.out Ev2.out (by omega)
  have Zu2 : Hid (Sz ((4 * j + 8) + k) u2) := M2.out.zp
  have Su2 : Hid (SmO (some u2)) := Sz.o Zu2 (by omega)
  have Zv2 : Hid (Sz ((4 * j + 8) + k) v2) := M2.out.zq
  have Sv2 : Hid (SmO (some v2)) := Sz.o Zv2 (by omega)
  have Exl : Hid (u1 - v2 = xl) := by have h0 := Fxl.out; have h1 := Ecc.out; have h2 := Ess.out; have h3 := Eu1.out; have h4 := Ev1.out; have h5 := Eu2.out; have h6 := Ev2.out; subst_vars; rfl
  have Exh : Hid (v1 - u2 = xh) := by have h0 := Fxh.out; have h1 := Ecc.out; have h2 := Ess.out; have h3 := Eu1.out; have h4 := Ev1.out; have h5 := Eu2.out; have h6 := Ev2.out; subst_vars; rfl
  obtain ⟨u3, Eu3⟩ : ∃ z : Rat, Hid (mulL ss ss p q = z) := ⟨_, rfl⟩
  obtain ⟨v3, Ev3⟩ : ∃ z : Rat, Hid (mulH ss ss p q = z) := ⟨_, rfl⟩
  have M3 : Hid (Spn ((4 * j + 8) + k) (some u3) (some v3) u3 v3) := Spn.mul D.out A.out Eu3.out Ev3.out (by omega)
  have Zu3 : Hid (Sz ((4 * j + 8) + k) u3) := M3.out.zp
  have Su3 : Hid (SmO (some u3)) := Sz.o Zu3 (by omega)
  have Zv3 : Hid (Sz ((4 * j + 8) + k) v3) := M3.out.zq
  have Sv3 : Hid (SmO (some v3)) := Sz.o Zv3 (by omega)
  obtain ⟨u4, Eu4⟩ : ∃ z : Rat, Hid (mulL cc cc r s = z) := ⟨_, rfl⟩
  obtain ⟨v4, Ev4⟩ : ∃ z : Rat, Hid (mulH cc cc r s = z) := ⟨_, rfl⟩
  have M4 : Hid (Spn ((4 * j + 8) + k) (some u4) (some v4) u4 v4) := Spn.mul C.out B.out Eu4.out Ev4.out (by omega)
  have Zu4 : Hid (Sz ((4 * j + 8) + k) u4) := M4.out.zp
  have Su4 : Hid (SmO (some u4)) := Sz.o Zu4 (by omega)
  have Zv4 : Hid (Sz ((4 * j + 8) + k) v4) := M4.out.zq
  have Sv4 : Hid (SmO (some v4)) := Sz.o Zv4 (by omega)
  have Eyl : Hid (u3 + u4 = yl) := by have h0 := Fyl.out; have h1 := Ecc.out; have h2 := Ess.out; have h3 := Eu1.out; have h4 := Ev1.out; have h5 := Eu2.out; have h6 := Ev2.out; have h7 := Eu3.out; have h8 := Ev3.out; have h9 := Eu4.out; have h10 := Ev4.out; subst_vars; rfl
  have Eyh : Hid (v3 + v4 = yh) := by have h0 := Fyh.out; have h1 := Ecc.out; have h2 := Ess.out; have h3 := Eu1.out; have h4 := Ev1.out; have h5 := Eu2.out; have h6 := Ev2.out; have h7 := Eu3.out; have h8 := Ev3.out; have h9 := Eu4.out; have h10 := Ev4.out; subst_vars; rfl
  go_enter Tryd.func85, Tryd.ntmps85
  go_wp2_with (first
      | ((with_reducible refine isBox ?_); refine bxA H ?_; clear H; intro _ _ H)
      | ((with_reducible refine isAlloc ?_); refine alA H ?_; clear H; intro _ _ H))
  refine wp_region_U 6 9 [.a, .a, .s] H (by kernel_rfl) (by kernel_rfl) (by kernel_rfl) (by decide) ?_
  simp only [List.take_succ_cons, List.take_zero, List.drop_succ_cons, List.drop_zero]
  repeat (first
      | ((with_reducible refine kLoad ?_); refine kldA H ?_))
  refine wpK_step (fun K hK => ?_)
  go_simp
  apply Exists.intro
  refine ⟨fun sx => ?_, hK _ ?_⟩
  · go_at_call 108
    exact turnCos_any o cc _ (by omega) Zo Ecc (H.out.tbx sx)
  clear hK K
  refine wpK_step (fun K hK => ?_)
  go_simp
  apply Exists.intro
  refine ⟨fun sx => ?_, hK _ ?_⟩
  · go_at_call 68
    exact spanOf_any (some cc) cc _ Scc rfl (H.out.tbx sx)
  clear hK K
  repeat (first
      | ((with_reducible refine kLoad ?_); refine kldA H ?_))
  refine wpK_step (fun K hK => ?_)
  go_simp
  apply Exists.intro
  refine ⟨fun sx => ?_, hK _ ?_⟩
  · go_at_call 105
    exact turnSin_any o ss _ (by omega) Zo Ess (H.out.tbx sx)
  clear hK K
  refine wpK_step (fun K hK => ?_)
  go_simp
  apply Exists.intro
  refine ⟨fun sx => ?_, hK _ ?_⟩
  · go_at_call 68
    exact spanOf_any (some ss) ss _ Sss rfl (H.out.tbx sx)
  clear hK K
  refine wpKeep_nil ?_
  refine wpL_A (by rfl) (by simp [Allocs, go_sem]; intro _ _; rfl) ?_
  intro _
  (simp only [Act.put, List.setIfInBounds_toArray, List.set_cons_succ, List.set_cons_zero])
  refine wpL_A (by rfl) (by simp [Allocs, go_sem]; intro _ _; rfl) ?_
  intro _
  (simp only [Act.put, List.setIfInBounds_toArray, List.set_cons_succ, List.set_cons_zero])
  refine wpL_S (by rfl) rfl rfl rfl (by (first | exact rRat | exact rSpan | exact rPose | exact rFrame | exact rVec | exact rTurn | exact rBox)) (by rfl) (by rfl) (by (repeat (first | apply Upd.head | apply Upd.tail | assumption))) (by rfl) (by (simp only [List.drop, List.take, List.nil_append, List.cons_append]); rfl) (by exact Nat.le_of_ble_eq_true rfl) (by rfl) ?_
  refine wpL_nil ?_
  clear H
  intro _ H
  go_wp2_with (first
      | ((with_reducible refine isStore ?_); refine stA H ?_; clear H; intro _ H))
  refine wp_region_T 14 H (by kernel_rfl) (by kernel_rfl) ?_
  simp only [List.take_succ_cons, List.take_zero, List.drop_succ_cons, List.drop_zero]
  repeat (first
      | ((with_reducible refine kLoad ?_); refine kldA H ?_))
  refine wpK_step (fun K hK => ?_)
  go_simp
  apply Exists.intro
  refine ⟨fun sx => ?_, hK _ ?_⟩
  · go_at_call 71
    exact spanMul_any (some cc) (some cc) cc cc a b p q u1 v1 _ (by omega) C A Eu1 Ev1 (H.out.tbx sx)
  clear hK K
  repeat (first
      | ((with_reducible refine kLoad ?_); refine kldA H ?_))
  refine wpK_step (fun K hK => ?_)
  go_simp
  apply Exists.intro
  refine ⟨fun sx => ?_, hK _ ?_⟩
  · go_at_call 71
    exact spanMul_any (some ss) (some ss) ss ss c d r s u2 v2 _ (by omega) D B Eu2 Ev2 (H.out.tbx sx)
  clear hK K
  refine wpK_step (fun K hK => ?_)
  go_simp
  apply Exists.intro
  refine ⟨fun sx => ?_, hK _ ?_⟩
  · go_at_call 70
    exact spanSub_any (some u1) (some v1) u1 v1 (some u2) (some v2) u2 v2 xl xh _ (by omega) M1 M2 Exl Exh (H.out.tbx sx)
  clear hK K
  repeat (first
      | ((with_reducible refine kLoad ?_); refine kldA H ?_))
  refine wpK_step (fun K hK => ?_)
  go_simp
  apply Exists.intro
  refine ⟨fun sx => ?_, hK _ ?_⟩
  · go_at_call 71
    exact spanMul_any (some ss) (some ss) ss ss a b p q u3 v3 _ (by omega) D A Eu3 Ev3 (H.out.tbx sx)
  clear hK K
  repeat (first
      | ((with_reducible refine kLoad ?_); refine kldA H ?_))
  refine wpK_step (fun K hK => ?_)
  go_simp
  apply Exists.intro
  refine ⟨fun sx => ?_, hK _ ?_⟩
  · go_at_call 71
    exact spanMul_any (some cc) (some cc) cc cc c d r s u4 v4 _ (by omega) C B Eu4 Ev4 (H.out.tbx sx)
  clear hK K
  refine wpK_step (fun K hK => ?_)
  go_simp
  apply Exists.intro
  refine ⟨fun sx => ?_, hK _ ?_⟩
  · go_at_call 69
    exact spanAdd_any (some u3) (some v3) u3 v3 (some u4) (some v4) u4 v4 yl yh _ (by omega) M3 M4 Eyl Eyh (H.out.tbx sx)
  clear hK K
  refine wpKeep_nil ?_
  clear H
  intro _ H
  go_wp2_with (first
      | ((with_reducible refine isStore ?_); refine stA H ?_; clear H; intro _ H))
  exact bodyPost_ret (results_HH H Tryd.results85 (by (first | exact rRat | exact rSpan | exact rPose | exact rFrame | exact rVec | exact rTurn | exact rBox)) (by (first | exact rRat | exact rSpan | exact rPose | exact rFrame | exact rVec | exact rTurn | exact rBox)) rfl (by (repeat (first | exact List.Mem.head _ | refine List.Mem.tail _ ?_ | assumption))) rfl (by (repeat (first | exact List.Mem.head _ | refine List.Mem.tail _ ?_ | assumption))) (by rfl) (by rfl)) rfl ⟨rfl, H.out.bel⟩
end Go.Proofs.YtolekonocbeekaaDoor

namespace Go.Proofs.YtolekonocbeekaaDoor
open Go.RowKit
set_option linter.unusedVariables false
set_option maxRecDepth 100000

set_option maxHeartbeats 4000000 in
theorem Grip_ok {i j k : Nat} (a1 b1 : Option Rat) (p1 q1 : Rat) (a2 b2 : Option Rat) (p2 q2 : Rat) (a3 b3 : Option Rat) (p3 q3 : Rat) (x : Option Rat) (y : Option Rat) (r : Option Rat) (tl : Rat) (th : Rat) (xl : Rat) (xh : Rat) (yl : Rat) (yh : Rat) (w : World) (hk : i ≤ 2300 ∧ k ≤ 3000 ∧ j ≤ 100) (A1 : Hid (Spn i a1 b1 p1 q1)) (A2 : Hid (Spn i a2 b2 p2 q2)) (A3 : Hid (Spn k a3 b3 p3 q3)) (Zx : Hid (SzO j x)) (Zy : Hid (SzO j y)) (Zr : Hid (SzO j r)) (G : Hid (tWide (-(valO r)) p3 q3 = false)) (Ftl : Hid (tvQ (-(valO r)) p3 = tl)) (Fth : Hid (tvQ (-(valO r)) q3 = th)) (Fxl : Hid (rtXL (-(valO r)) (p1 - valO x) (q1 - valO x) (p2 - valO y) (q2 - valO y) = xl)) (Fxh : Hid (rtXH (-(valO r)) (p1 - valO x) (q1 - valO x) (p2 - valO y) (q2 - valO y) = xh)) (Fyl : Hid (rtYL (-(valO r)) (p1 - valO x) (q1 - valO x) (p2 - valO y) (q2 - valO y) = yl)) (Fyh : Hid (rtYH (-(valO r)) (p1 - valO x) (q1 - valO x) (p2 - valO y) (q2 - valO y) = yh)) (hT : Tb w) :
    Calls Tryd.prog 41 #[.agg #[.bool (sgO a1), .string (nuO a1), .string (deO a1), .bool (sgO b1), .string (nuO b1), .string (deO b1), .bool (sgO a2), .string (nuO a2), .string (deO a2), .bool (sgO b2), .string (nuO b2), .string (deO b2), .bool (sgO a3), .string (nuO a3), .string (deO a3), .bool (sgO b3), .string (nuO b3), .string (deO b3)], .agg #[.bool (sgO x), .string (nuO x), .string (deO x), .bool (sgO y), .string (nuO y), .string (deO y), .bool false, .bool (sgO r), .string (nuO r), .string (deO r)]] w fun e w' => e = .returned (.tuple #[.agg #[.bool (sgO (some xl)), .string (nuO (some xl)), .string (deO (some xl)), .bool (sgO (some xh)), .string (nuO (some xh)), .string (deO (some xh)), .bool (sgO (some yl)), .string (nuO (some yl)), .string (deO (some yl)), .bool (sgO (some yh)), .string (nuO (some yh)), .string (deO (some yh)), .bool (sgO (some tl)), .string (nuO (some tl)), .string (deO (some tl)), .bool (sgO (some th)), .string (nuO (some th)), .string (deO (some th))], .int .i64 0]) ∧ Below w.heap.size w w' := by
  have H := Lib.hid (Hp.start hT)
  clear hT
  have Zp1 : Hid (Sz i p1) := A1.out.zp
  have Sp1 : Hid (SmO (some p1)) := Sz.o Zp1 (by omega)
  have Zq1 : Hid (Sz i q1) := A1.out.zq
  have Sq1 : Hid (SmO (some q1)) := Sz.o Zq1 (by omega)
  have Zp2 : Hid (Sz i p2) := A2.out.zp
  have Sp2 : Hid (SmO (some p2)) := Sz.o Zp2 (by omega)
  have Zq2 : Hid (Sz i q2) := A2.out.zq
  have Sq2 : Hid (SmO (some q2)) := Sz.o Zq2 (by omega)
  have Zp3 : Hid (Sz k p3) := A3.out.zp
  have Sp3 : Hid (SmO (some p3)) := Sz.o Zp3 (by omega)
  have Zq3 : Hid (Sz k q3) := A3.out.zq
  have Sq3 : Hid (SmO (some q3)) := Sz.o Zq3 (by omega)
  have Sx : Hid (SmO x) := SzO.sm Zx (by omega)
  have Sy : Hid (SmO y) := SzO.sm Zy (by omega)
  have Sr : Hid (SmO r) := SzO.sm Zr (by omega)
  obtain ⟨n, En⟩ : ∃ z : Rat, Hid (-(valO r) = z) := ⟨_, rfl⟩
  have Zn : Hid (Sz j n) := szEq En (Sz.neg Zr)
  have Sn : Hid (SmO (some n)) := Sz.o Zn (by omega)
  have G2 : Hid (tWide (valO (some n)) p3 q3 = false) := by have := En.out; subst this; exact G
  have Etl : Hid (tvQ (valO (some n)) p3 = tl) := by have h0 := Ftl.out; have h1 := En.out; subst_vars; rfl
  have Eth : Hid (tvQ (valO (some n)) q3 = th) := by have h0 := Fth.out; have h1 := En.out; subst_vars; rfl
  obtain ⟨vx, Evx⟩ : ∃ z : Rat, Hid (valO x = z) := ⟨_, rfl⟩
  have Zvx : Hid (Sz j vx) := szEq Evx (Zx)
  have Svx : Hid (SmO (some vx)) := Sz.o Zvx (by omega)
  have X : Hid (Spn j (some vx) (some vx) vx vx) := Spn.of Zvx (by omega)
  obtain ⟨d1, Ed1⟩ : ∃ z : Rat, Hid (p1 - vx = z) := ⟨_, rfl⟩
  obtain ⟨e1, Ee1⟩ : ∃ z : Rat, Hid (q1 - vx = z) := ⟨_, rfl⟩
  have D1 : Hid (Spn (i + j + 1) (some d1) (some e1) d1 e1) := Spn.sub A1.out X.out Ed1.out Ee1.out (by omega)
  have Zd1 : Hid (Sz (i + j + 1) d1) := D1.out.zp
  have Sd1 : Hid (SmO (some d1)) := Sz.o Zd1 (by omega)
  have Ze1 : Hid (Sz (i + j + 1) e1) := D1.out.zq
  have Se1 : Hid (SmO (some e1)) := Sz.o Ze1 (by omega)
  obtain ⟨vy, Evy⟩ : ∃ z : Rat, Hid (valO y = z) := ⟨_, rfl⟩
  have Zvy : Hid (Sz j vy) := szEq Evy (Zy)
  have Svy : Hid (SmO (some vy)) := Sz.o Zvy (by omega)
  have Y : Hid (Spn j (some vy) (some vy) vy vy) := Spn.of Zvy (by omega)
  obtain ⟨d2, Ed2⟩ : ∃ z : Rat, Hid (p2 - vy = z) := ⟨_, rfl⟩
  obtain ⟨e2, Ee2⟩ : ∃ z : Rat, Hid (q2 - vy = z) := ⟨_, rfl⟩
  have D2 : Hid (Spn (i + j + 1) (some d2) (some e2) d2 e2) := Spn.sub A2.out Y.out Ed2.out Ee2.out (by omega)
  have Zd2 : Hid (Sz (i + j + 1) d2) := D2.out.zp
  have Sd2 : Hid (SmO (some d2)) := Sz.o Zd2 (by omega)
  have Ze2 : Hid (Sz (i + j + 1) e2) := D2.out.zq
  have Se2 : Hid (SmO (some e2)) := Sz.o Ze2 (by omega)
  have Exl : Hid (rtXL (valO (some n)) d1 e1 d2 e2 = xl) := by have h0 := Fxl.out; have h1 := En.out; have h2 := Evx.out; have h3 := Ed1.out; have h4 := Ee1.out; have h5 := Evy.out; have h6 := Ed2.out; have h7 := Ee2.out; subst_vars; rfl
  have Exh : Hid (rtXH (valO (some n)) d1 e1 d2 e2 = xh) := by have h0 := Fxh.out; have h1 := En.out; have h2 := Evx.out; have h3 := Ed1.out; have h4 := Ee1.out; have h5 := Evy.out; have h6 := Ed2.out; have h7 := Ee2.out; subst_vars; rfl
  have Eyl : Hid (rtYL (valO (some n)) d1 e1 d2 e2 = yl) := by have h0 := Fyl.out; have h1 := En.out; have h2 := Evx.out; have h3 := Ed1.out; have h4 := Ee1.out; have h5 := Evy.out; have h6 := Ed2.out; have h7 := Ee2.out; subst_vars; rfl
  have Eyh : Hid (rtYH (valO (some n)) d1 e1 d2 e2 = yh) := by have h0 := Fyh.out; have h1 := En.out; have h2 := Evx.out; have h3 := Ed1.out; have h4 := Ee1.out; have h5 := Evy.out; have h6 := Ed2.out; have h7 := Ee2.out; subst_vars; rfl
  go_enter Tryd.func41, Tryd.ntmps41
  go_wp2_with (first
      | ((with_reducible refine isLoad ?_); refine ld1A H ?_)
      | ((with_reducible refine isBox ?_); refine bxA H ?_; clear H; intro _ _ H)
      | ((with_reducible refine isAlloc ?_); refine alA H ?_; clear H; intro _ _ H))
  refine wp_region_G (vs := [.bool (sgO (some tl)), .string (nuO (some tl)), .string (deO (some tl)), .bool (sgO (some th)), .string (nuO (some th)), .string (deO (some th))]) 10 H (by kernel_rfl) (by kernel_rfl) rfl rfl (by simp [Allocs, go_sem]; intro _ _; rfl) (by kernel_rfl) rfl rfl ?_
  simp only [List.take_succ_cons, List.take_zero, List.drop_succ_cons, List.drop_zero]
  repeat (first
      | ((with_reducible refine kLoad ?_); refine kldA H ?_)
      | ((fail_if_success (with_reducible refine kCall ?_)); (with_reducible refine kCons ?_); refine wpK_step (fun K hK => ?_); go_simp; refine hK _ ?_; clear hK K))
  refine wpK_step (fun K hK => ?_)
  go_simp
  apply Exists.intro
  refine ⟨fun sx => ?_, hK _ ?_⟩
  · go_at_call 52
    exact RNeg_any r n _ Sr En (H.out.tbx sx)
  clear hK K
  refine wpK_step (fun K hK => ?_)
  go_simp
  apply Exists.intro
  refine ⟨fun sx => ?_, hK _ ?_⟩
  · go_at_call 84
    exact turned_ok a3 b3 p3 q3 (some n) tl th _ (by omega) A3 Zn G2 Etl Eth (H.out.tbx sx)
  clear hK K
  repeat (first
      | ((fail_if_success (with_reducible refine kCall ?_)); (with_reducible refine kCons ?_); refine wpK_step (fun K hK => ?_); go_simp; refine hK _ ?_; clear hK K))
  refine wpKeep_nil ?_
  intro _
  (simp only [Act.put, List.setIfInBounds_toArray, List.set_cons_succ, List.set_cons_zero])
  refine ⟨⟨⟨_, _, _, rfl, by (first | exact rRat | exact rSpan | exact rPose | exact rFrame | exact rVec | exact rTurn | exact rBox), rfl, rfl⟩, rfl, rfl, rfl, rfl⟩, ?_⟩
  clear H
  intro _ H
  go_wp2_with (first
      | go_skip)
  refine wp_region_U 18 24 [.p, .p, .p, .a, .a, .s] H (by kernel_rfl) (by kernel_rfl) (by kernel_rfl) (by decide) ?_
  simp only [List.take_succ_cons, List.take_zero, List.drop_succ_cons, List.drop_zero]
  repeat (first
      | ((with_reducible refine kLoad ?_); refine kldA H ?_)
      | ((fail_if_success (with_reducible refine kCall ?_)); (with_reducible refine kCons ?_); refine wpK_step (fun K hK => ?_); go_simp; refine hK _ ?_; clear hK K))
  refine wpK_step (fun K hK => ?_)
  go_simp
  apply Exists.intro
  refine ⟨fun sx => ?_, hK _ ?_⟩
  · go_at_call 68
    exact spanOf_any x vx _ Sx Evx (H.out.tbx sx)
  clear hK K
  refine wpK_step (fun K hK => ?_)
  go_simp
  apply Exists.intro
  refine ⟨fun sx => ?_, hK _ ?_⟩
  · go_at_call 70
    exact spanSub_any a1 b1 p1 q1 (some vx) (some vx) vx vx d1 e1 _ (by omega) A1 X Ed1 Ee1 (H.out.tbx sx)
  clear hK K
  repeat (first
      | ((with_reducible refine kLoad ?_); refine kldA H ?_)
      | ((fail_if_success (with_reducible refine kCall ?_)); (with_reducible refine kCons ?_); refine wpK_step (fun K hK => ?_); go_simp; refine hK _ ?_; clear hK K))
  refine wpK_step (fun K hK => ?_)
  go_simp
  apply Exists.intro
  refine ⟨fun sx => ?_, hK _ ?_⟩
  · go_at_call 68
    exact spanOf_any y vy _ Sy Evy (H.out.tbx sx)
  clear hK K
  refine wpK_step (fun K hK => ?_)
  go_simp
  apply Exists.intro
  refine ⟨fun sx => ?_, hK _ ?_⟩
  · go_at_call 70
    exact spanSub_any a2 b2 p2 q2 (some vy) (some vy) vy vy d2 e2 _ (by omega) A2 Y Ed2 Ee2 (H.out.tbx sx)
  clear hK K
  repeat (first
      | ((with_reducible refine kLoad ?_); refine kldA H ?_)
      | ((fail_if_success (with_reducible refine kCall ?_)); (with_reducible refine kCons ?_); refine wpK_step (fun K hK => ?_); go_simp; refine hK _ ?_; clear hK K))
  refine wpK_step (fun K hK => ?_)
  go_simp
  apply Exists.intro
  refine ⟨fun sx => ?_, hK _ ?_⟩
  · go_at_call 81
    exact turnBack_any r n _ (by omega) Zr En (H.out.tbx sx)
  clear hK K
  refine wpK_step (fun K hK => ?_)
  go_simp
  apply Exists.intro
  refine ⟨fun sx => ?_, hK _ ?_⟩
  · go_at_call 85
    exact rotate_any (some d1) (some e1) d1 e1 (some d2) (some e2) d2 e2 (some n) xl xh yl yh _ (by omega) D1 D2 Zn Exl Exh Eyl Eyh (H.out.tbx sx)
  clear hK K
  refine wpKeep_nil ?_
  refine wpL_P (by rfl) (by (first | exact wanted_none rfl | exact wanted_some rfl rfl)) (by intro W; first | (go_simp; rfl) | go_simp) ?_
  (simp only [Act.put, List.setIfInBounds_toArray, List.set_cons_succ, List.set_cons_zero])
  refine wpL_P (by rfl) (by (first | exact wanted_none rfl | exact wanted_some rfl rfl)) (by intro W; first | (go_simp; rfl) | go_simp) ?_
  (simp only [Act.put, List.setIfInBounds_toArray, List.set_cons_succ, List.set_cons_zero])
  refine wpL_P (by rfl) (by (first | exact wanted_none rfl | exact wanted_some rfl rfl)) (by intro W; first | (go_simp; rfl) | go_simp) ?_
  (simp only [Act.put, List.setIfInBounds_toArray, List.set_cons_succ, List.set_cons_zero])
  refine wpL_A (by rfl) (by simp [Allocs, go_sem]; intro _ _; rfl) ?_
  intro _
  (simp only [Act.put, List.setIfInBounds_toArray, List.set_cons_succ, List.set_cons_zero])
  refine wpL_A (by rfl) (by simp [Allocs, go_sem]; intro _ _; rfl) ?_
  intro _
  (simp only [Act.put, List.setIfInBounds_toArray, List.set_cons_succ, List.set_cons_zero])
  refine wpL_S (by rfl) rfl rfl rfl (by (first | exact rRat | exact rSpan | exact rPose | exact rFrame | exact rVec | exact rTurn | exact rBox)) (by rfl) (by rfl) (by (repeat (first | apply Upd.head | apply Upd.tail | assumption))) (by rfl) (by (simp only [List.drop, List.take, List.nil_append, List.cons_append]); rfl) (by exact Nat.le_of_ble_eq_true rfl) (by rfl) ?_
  refine wpL_nil ?_
  clear H
  intro _ H
  go_wp2_with (first
      | ((with_reducible refine isLoad ?_); refine ldA H ?_)
      | ((with_reducible refine isStore ?_); refine stA H ?_; clear H; intro _ H))
  exact bodyPost_ret (results_Hv H Tryd.results41 (by (first | exact rRat | exact rSpan | exact rPose | exact rFrame | exact rVec | exact rTurn | exact rBox)) rfl (by (repeat (first | exact List.Mem.head _ | refine List.Mem.tail _ ?_ | assumption))) (by rfl) (by rfl)) rfl ⟨rfl, H.out.bel⟩

set_option maxHeartbeats 4000000 in
theorem Grip_wide {i j k : Nat} (a1 b1 : Option Rat) (p1 q1 : Rat) (a2 b2 : Option Rat) (p2 q2 : Rat) (a3 b3 : Option Rat) (p3 q3 : Rat) (x : Option Rat) (y : Option Rat) (r : Option Rat) (w : World) (hk : i ≤ 2300 ∧ k ≤ 3000 ∧ j ≤ 100) (A1 : Hid (Spn i a1 b1 p1 q1)) (A2 : Hid (Spn i a2 b2 p2 q2)) (A3 : Hid (Spn k a3 b3 p3 q3)) (Zx : Hid (SzO j x)) (Zy : Hid (SzO j y)) (Zr : Hid (SzO j r)) (G : Hid (tWide (-(valO r)) p3 q3 = true)) (hT : Tb w) :
    Calls Tryd.prog 41 #[.agg #[.bool (sgO a1), .string (nuO a1), .string (deO a1), .bool (sgO b1), .string (nuO b1), .string (deO b1), .bool (sgO a2), .string (nuO a2), .string (deO a2), .bool (sgO b2), .string (nuO b2), .string (deO b2), .bool (sgO a3), .string (nuO a3), .string (deO a3), .bool (sgO b3), .string (nuO b3), .string (deO b3)], .agg #[.bool (sgO x), .string (nuO x), .string (deO x), .bool (sgO y), .string (nuO y), .string (deO y), .bool false, .bool (sgO r), .string (nuO r), .string (deO r)]] w fun e w' => e = .returned (.tuple #[.agg #[.bool false, .string ⟨#[]⟩, .string ⟨#[]⟩, .bool false, .string ⟨#[]⟩, .string ⟨#[]⟩, .bool false, .string ⟨#[]⟩, .string ⟨#[]⟩, .bool false, .string ⟨#[]⟩, .string ⟨#[]⟩, .bool false, .string ⟨#[]⟩, .string ⟨#[]⟩, .bool false, .string ⟨#[]⟩, .string ⟨#[]⟩], .int .i64 18]) ∧ Below w.heap.size w w' := by
  have H := Lib.hid (Hp.start hT)
  clear hT
  have Zp1 : Hid (Sz i p1) := A1.out.zp
  have Sp1 : Hid (SmO (some p1)) := Sz.o Zp1 (by omega)
  have Zq1 : Hid (Sz i q1) := A1.out.zq
  have Sq1 : Hid (SmO (some q1)) := Sz.o Zq1 (by omega)
  have Zp2 : Hid (Sz i p2) := A2.out.zp
  have Sp2 : Hid (SmO (some p2)) := Sz.o Zp2 (by omega)
  have Zq2 : Hid (Sz i q2) := A2.out.zq
  have Sq2 : Hid (SmO (some q2)) := Sz.o Zq2 (by omega)
  have Zp3 : Hid (Sz k p3) := A3.out.zp
  have Sp3 : Hid (SmO (some p3)) := Sz.o Zp3 (by omega)
  have Zq3 : Hid (Sz k q3) := A3.out.zq
  have Sq3 : Hid (SmO (some q3)) := Sz.o Zq3 (by omega)
  have Sx : Hid (SmO x) := SzO.sm Zx (by omega)
  have Sy : Hid (SmO y) := SzO.sm Zy (by omega)
  have Sr : Hid (SmO r) := SzO.sm Zr (by omega)
  obtain ⟨n, En⟩ : ∃ z : Rat, Hid (-(valO r) = z) := ⟨_, rfl⟩
  have Zn : Hid (Sz j n) := szEq En (Sz.neg Zr)
  have Sn : Hid (SmO (some n)) := Sz.o Zn (by omega)
  have G2 : Hid (tWide (valO (some n)) p3 q3 = true) := by have := En.out; subst this; exact G
  go_enter Tryd.func41, Tryd.ntmps41
  go_wp2_with (first
      | ((with_reducible refine isLoad ?_); refine ld1A H ?_)
      | ((with_reducible refine isBox ?_); refine bxA H ?_; clear H; intro _ _ H)
      | ((with_reducible refine isAlloc ?_); refine alA H ?_; clear H; intro _ _ H))
  refine wp_region_G (vs := [.bool false, .string ⟨#[]⟩, .string ⟨#[]⟩, .bool false, .string ⟨#[]⟩, .string ⟨#[]⟩]) 10 H (by kernel_rfl) (by kernel_rfl) rfl rfl (by simp [Allocs, go_sem]; intro _ _; rfl) (by kernel_rfl) rfl rfl ?_
  simp only [List.take_succ_cons, List.take_zero, List.drop_succ_cons, List.drop_zero]
  repeat (first
      | ((with_reducible refine kLoad ?_); refine kldA H ?_)
      | ((fail_if_success (with_reducible refine kCall ?_)); (with_reducible refine kCons ?_); refine wpK_step (fun K hK => ?_); go_simp; refine hK _ ?_; clear hK K))
  refine wpK_step (fun K hK => ?_)
  go_simp
  apply Exists.intro
  refine ⟨fun sx => ?_, hK _ ?_⟩
  · go_at_call 52
    exact RNeg_any r n _ Sr En (H.out.tbx sx)
  clear hK K
  refine wpK_step (fun K hK => ?_)
  go_simp
  apply Exists.intro
  refine ⟨fun sx => ?_, hK _ ?_⟩
  · go_at_call 84
    exact turned_wide a3 b3 p3 q3 (some n) _ (by omega) A3 Zn G2 (H.out.tbx sx)
  clear hK K
  repeat (first
      | ((fail_if_success (with_reducible refine kCall ?_)); (with_reducible refine kCons ?_); refine wpK_step (fun K hK => ?_); go_simp; refine hK _ ?_; clear hK K))
  refine wpKeep_nil ?_
  intro _
  (simp only [Act.put, List.setIfInBounds_toArray, List.set_cons_succ, List.set_cons_zero])
  refine ⟨⟨⟨_, _, _, rfl, by (first | exact rRat | exact rSpan | exact rPose | exact rFrame | exact rVec | exact rTurn | exact rBox), rfl, rfl⟩, rfl, rfl, rfl, rfl⟩, ?_⟩
  clear H
  intro _ H
  go_wp2_with (first
      | ((with_reducible refine isStore ?_); refine stA H ?_; clear H; intro _ H))
  exact bodyPost_ret (results_Hv H Tryd.results41 (by (first | exact rRat | exact rSpan | exact rPose | exact rFrame | exact rVec | exact rTurn | exact rBox)) rfl (by (repeat (first | exact List.Mem.head _ | refine List.Mem.tail _ ?_ | assumption))) (by rfl) (by rfl)) rfl ⟨rfl, H.out.bel⟩
end Go.Proofs.YtolekonocbeekaaDoor

namespace Go.Proofs.YtolekonocbeekaaDoor
open Go.RowKit
set_option linter.unusedVariables false
set_option maxRecDepth 100000

set_option maxHeartbeats 4000000 in
theorem carried_any   (w : World)   (hT : Tb w) :
    Calls Tryd.prog 33 #[] w fun e w' => e = .returned (.bool true) ∧ Below w.heap.size w w' := by
  have H := Lib.hid (Hp.start hT)
  clear hT
  obtain ⟨o, Eo⟩ : ∃ z : Rat, Hid (((2 : Int) : Rat) = z) := ⟨_, rfl⟩
  have Zo : Hid (Sz 3 o) := szEq Eo (Sz.int (2) (by decide))
  have So : Hid (SmO (some o)) := Sz.o Zo (by omega)
  obtain ⟨e, Ee⟩ : ∃ z : Rat, Hid (((-2 : Int) : Rat) = z) := ⟨_, rfl⟩
  have Ze : Hid (Sz 3 e) := szEq Ee (Sz.int (-2) (by decide))
  have Se : Hid (SmO (some e)) := Sz.o Ze (by omega)
  have A0 : Hid (Spn 1 none none 0 0) := ⟨Sm.zero, Sm.zero, nmS_none, Sz.zero, Sz.zero⟩
  have Zn : Hid (SzO 3 none) := Sz.zero.mono (by decide)
  have Zo3 : Hid (SzO 3 (some o)) := Zo
  obtain ⟨p, Ep⟩ : ∃ z : Rat, Hid ((-2 : Rat) = z) := ⟨_, rfl⟩
  obtain ⟨zz, Ez⟩ : ∃ z : Rat, Hid ((0 : Rat) = z) := ⟨_, rfl⟩
  have G : Hid (tWide (-(valO none)) 0 0 = false) := by show tWide (-(valO none)) 0 0 = false; kernel_rfl
  have F1 : Hid (tvQ (-(valO none)) 0 = zz) := by rw [← Ez.out]; show tvQ (-(valO none)) 0 = 0; kernel_rfl
  have Fxl : Hid (rtXL (-(valO none)) (0 - valO (some o)) (0 - valO (some o)) (0 - valO none) (0 - valO none) = p) := by rw [← Ep.out, ← Eo.out]; show rtXL (-(valO none)) (0 - valO (some ((2 : Int) : Rat))) (0 - valO (some ((2 : Int) : Rat))) (0 - valO none) (0 - valO none) = (-2 : Rat); kernel_rfl
  have Fxh : Hid (rtXH (-(valO none)) (0 - valO (some o)) (0 - valO (some o)) (0 - valO none) (0 - valO none) = p) := by rw [← Ep.out, ← Eo.out]; show rtXH (-(valO none)) (0 - valO (some ((2 : Int) : Rat))) (0 - valO (some ((2 : Int) : Rat))) (0 - valO none) (0 - valO none) = (-2 : Rat); kernel_rfl
  have Fyl : Hid (rtYL (-(valO none)) (0 - valO (some o)) (0 - valO (some o)) (0 - valO none) (0 - valO none) = zz) := by rw [← Ez.out, ← Eo.out]; show rtYL (-(valO none)) (0 - valO (some ((2 : Int) : Rat))) (0 - valO (some ((2 : Int) : Rat))) (0 - valO none) (0 - valO none) = (0 : Rat); kernel_rfl
  have Fyh : Hid (rtYH (-(valO none)) (0 - valO (some o)) (0 - valO (some o)) (0 - valO none) (0 - valO none) = zz) := by rw [← Ez.out, ← Eo.out]; show rtYH (-(valO none)) (0 - valO (some ((2 : Int) : Rat))) (0 - valO (some ((2 : Int) : Rat))) (0 - valO none) (0 - valO none) = (0 : Rat); kernel_rfl
  have CK : Hid (cmpQ (valO (some p)) (valO (some e)) = 0) := by rw [← Ep.out, ← Ee.out]; show cmpQ (-2) ((-2 : Int) : Rat) = 0; kernel_rfl
  have S2 : Hid (SmO (some p)) := by rw [← Ep.out]; exact Sz.o (k := 3) (Sz.int (-2) (by decide)) (by decide)
  go_enter Tryd.func33, Tryd.ntmps33
  go_wp2_with (first
      | go_skip)
  refine (ROf_any (2) o _ (by decide) (by decide) Eo H.out.tb).mono ?_
  rintro _ _ ⟨rfl, hb⟩
  replace H := Lib.hid (H.out.go hb)
  clear hb
  go_wp2_with (first
      | go_skip)
  refine (Grip_ok (i := 1) (j := 3) (k := 1) none none 0 0 none none 0 0 none none 0 0 (some o) none none zz zz p p zz zz _ (by omega) A0 A0 A0 Zo3 Zn Zn G F1 F1 Fxl Fxh Fyl Fyh H.out.tb).mono ?_
  rintro _ _ ⟨rfl, hb⟩
  replace H := Lib.hid (H.out.go hb)
  clear hb
  go_wp2_with (first
      | ((with_reducible refine isStore ?_); refine stA H ?_; clear H; intro _ H)
      | ((with_reducible refine isAlloc ?_); refine alA H ?_; clear H; intro _ _ H))
  refine wp_region_E H (by kernel_rfl) (by kernel_rfl) ?_
  repeat (first
      | ((with_reducible refine kLoad ?_); refine kldA H ?_)
      | ((fail_if_success (with_reducible refine kCall ?_)); (with_reducible refine kCons ?_); refine wpK_step (fun K hK => ?_); go_simp; refine hK _ ?_; clear hK K))
  refine wpK_step (fun K hK => ?_)
  go_simp
  apply Exists.intro
  refine ⟨fun sx => ?_, hK _ ?_⟩
  · go_at_call 35
    exact ROf_any (-2) e _ (by decide) (by decide) Ee (H.out.tbx sx)
  clear hK K
  refine wpK_step (fun K hK => ?_)
  go_simp
  apply Exists.intro
  refine ⟨fun sx => ?_, hK _ ?_⟩
  · go_at_call 23
    exact RCmp_any (some p) (some e) 0 _ S2 Se CK (H.out.tbx sx)
  clear hK K
  repeat (first
      | ((fail_if_success (with_reducible refine kCall ?_)); (with_reducible refine kCons ?_); refine wpK_step (fun K hK => ?_); go_simp; refine hK _ ?_; clear hK K))
  refine wpKeep_nil ?_
  clear H
  intro _ H
  go_wp2_with (first
      | go_skip)
  go_ret
  exact ⟨rfl, H.out.bel⟩
end Go.Proofs.YtolekonocbeekaaDoor

namespace Go.Proofs.YtolekonocbeekaaDoor
open Go.RowKit
set_option linter.unusedVariables false
set_option maxRecDepth 100000

theorem mx_self (p : Rat) : mx p p = p := by unfold mx; split <;> rfl
def snI (p q : Rat) : Nat → Rat × Rat
  | 0 => (mn (sinQ p) (sinQ q), mx (sinQ p) (sinQ q))
  | 1 => (exL p q ((-1 : Int) : Rat) (mn (sinQ p) (sinQ q)), exH p q ((-1 : Int) : Rat) (mx (sinQ p) (sinQ q)))
  | _ => (snL p q, snH p q)
theorem snI_0 {p q l h : Rat} (e : snI p q 0 = (l, h)) (hb : p ≤ ((-1 : Int) : Rat) ∧ ((-1 : Int) : Rat) ≤ q) : snI p q 1 = (mn l ((-1 : Int) : Rat), mx h ((-1 : Int) : Rat)) := by
  injection e with e1 e2
  show (exL _ _ _ _, exH _ _ _ _) = _
  unfold exL exH
  rw [if_pos hb, if_pos hb, e1, e2]
theorem snI_0n {p q l h : Rat} (e : snI p q 0 = (l, h)) (hb : ¬ (p ≤ ((-1 : Int) : Rat) ∧ ((-1 : Int) : Rat) ≤ q)) : snI p q 1 = (l, h) := by
  injection e with e1 e2
  show (exL _ _ _ _, exH _ _ _ _) = _
  unfold exL exH
  rw [if_neg hb, if_neg hb, e1, e2]
theorem snI_1 {p q l h : Rat} (e : snI p q 1 = (l, h)) (hb : p ≤ ((1 : Int) : Rat) ∧ ((1 : Int) : Rat) ≤ q) : snI p q 2 = (mn l ((1 : Int) : Rat), mx h ((1 : Int) : Rat)) := by
  injection e with e1 e2
  show (exL _ _ ((1 : Int) : Rat) _, exH _ _ ((1 : Int) : Rat) _) = _
  rw [e1, e2]
  unfold exL exH
  rw [if_pos hb, if_pos hb]
theorem snI_1n {p q l h : Rat} (e : snI p q 1 = (l, h)) (hb : ¬ (p ≤ ((1 : Int) : Rat) ∧ ((1 : Int) : Rat) ≤ q)) : snI p q 2 = (l, h) := by
  injection e with e1 e2
  show (exL _ _ ((1 : Int) : Rat) _, exH _ _ ((1 : Int) : Rat) _) = _
  rw [e1, e2]
  unfold exL exH
  rw [if_neg hb, if_neg hb]
set_option maxHeartbeats 4000000 in
theorem sinSpan_any {k : Nat} (a b : Option Rat) (p q : Rat) (lo hi : Rat) (w : World) (hk : k ≤ 500) (A : Hid (Spn k a b p q)) (F1 : Hid (snL p q = lo)) (F2 : Hid (snH p q = hi)) (hT : Tb w) :
    Calls Tryd.prog 67 #[.agg #[.bool (sgO a), .string (nuO a), .string (deO a), .bool (sgO b), .string (nuO b), .string (deO b)]] w fun e w' => e = .returned (.agg #[.bool (sgO (some lo)), .string (nuO (some lo)), .string (deO (some lo)), .bool (sgO (some hi)), .string (nuO (some hi)), .string (deO (some hi))]) ∧ Below w.heap.size w w' := by
  have H := Lib.hid (Hp.start hT)
  clear hT
  have Zp : Hid (Sz k p) := A.out.zp
  have Sp : Hid (SmO (some p)) := Sz.o Zp (by omega)
  have Zq : Hid (Sz k q) := A.out.zq
  have Sq : Hid (SmO (some q)) := Sz.o Zq (by omega)
  have Jp : Hid (mn p p = p) := mn_self p
  have Jq : Hid (mx q q = q) := mx_self q
  have AG : Hid (Spn k (some p) (some q) p q) := A.out.good (by omega)
  have NPQ : Hid (nmS (some p) (some q) = (p, q)) := AG.out.n
  obtain ⟨s1, Es1⟩ : ∃ z : Rat, Hid (sinQ p = z) := ⟨_, rfl⟩
  have Zs1 : Hid (Sz (4 * k + 8) s1) := szEq Es1 (Sz.sinQ Zp)
  have Ss1 : Hid (SmO (some s1)) := Sz.o Zs1 (by omega)
  obtain ⟨s2, Es2⟩ : ∃ z : Rat, Hid (sinQ q = z) := ⟨_, rfl⟩
  have Zs2 : Hid (Sz (4 * k + 8) s2) := szEq Es2 (Sz.sinQ Zq)
  have Ss2 : Hid (SmO (some s2)) := Sz.o Zs2 (by omega)
  have B1 : Hid (Spn (4 * k + 8) (some s1) (some s1) s1 s1) := Spn.of Zs1 (by omega)
  have B2 : Hid (Spn (4 * k + 8) (some s2) (some s2) s2 s2) := Spn.of Zs2 (by omega)
  obtain ⟨l0, El0⟩ : ∃ z : Rat, Hid (mn s1 s2 = z) := ⟨_, rfl⟩
  obtain ⟨h0, Eh0⟩ : ∃ z : Rat, Hid (mx s1 s2 = z) := ⟨_, rfl⟩
  have J0 : Hid (Spn (4 * k + 8) (some l0) (some h0) l0 h0) := Spn.join B1.out B2.out El0.out Eh0.out (by omega)
  have I0 : Hid (snI p q 0 = (l0, h0)) := by have e1 := El0.out; have e2 := Eh0.out; have e3 := Es1.out; have e4 := Es2.out; subst_vars; rfl
  go_enter Tryd.func67, Tryd.ntmps67
  go_wp2_with (first
      | ((with_reducible refine isLoad ?_); refine ldA H ?_)
      | ((with_reducible refine isBox ?_); refine bxA H ?_; clear H; intro _ _ H)
      | ((with_reducible refine isAlloc ?_); refine alA H ?_; clear H; intro _ _ H))
  refine (spanJoin_any a b p q a b p q p q _ (by omega) A A Jp Jq H.out.tb).mono ?_
  rintro _ _ ⟨rfl, hb⟩
  replace H := Lib.hid (H.out.go hb)
  clear hb
  go_wp2_with (first
      | ((with_reducible refine isStore ?_); refine stA H ?_; clear H; intro _ H))
  refine wp_region_F1 11 H (by kernel_rfl) (by kernel_rfl) rfl (by simp [Allocs, go_sem]; intro _ _; rfl) ?_
  simp only [List.take_succ_cons, List.take_zero, List.drop_succ_cons, List.drop_zero]
  repeat (first
      | ((with_reducible refine kLoad ?_); refine kldA H ?_)
      | ((fail_if_success (with_reducible refine kCall ?_)); (with_reducible refine kCons ?_); refine wpK_step (fun K hK => ?_); go_simp; refine hK _ ?_; clear hK K))
  refine wpK_step (fun K hK => ?_)
  go_simp
  apply Exists.intro
  refine ⟨fun sx => ?_, hK _ ?_⟩
  · go_at_call 106
    exact turnOf_any (some p) p _ (by omega) Zp rfl (H.out.tbx sx)
  clear hK K
  refine wpK_step (fun K hK => ?_)
  go_simp
  apply Exists.intro
  refine ⟨fun sx => ?_, hK _ ?_⟩
  · go_at_call 105
    exact turnSin_any (some p) s1 _ (by omega) Zp Es1 (H.out.tbx sx)
  clear hK K
  refine wpK_step (fun K hK => ?_)
  go_simp
  apply Exists.intro
  refine ⟨fun sx => ?_, hK _ ?_⟩
  · go_at_call 68
    exact spanOf_any (some s1) s1 _ Ss1 rfl (H.out.tbx sx)
  clear hK K
  repeat (first
      | ((with_reducible refine kLoad ?_); refine kldA H ?_)
      | ((fail_if_success (with_reducible refine kCall ?_)); (with_reducible refine kCons ?_); refine wpK_step (fun K hK => ?_); go_simp; refine hK _ ?_; clear hK K))
  refine wpK_step (fun K hK => ?_)
  go_simp
  apply Exists.intro
  refine ⟨fun sx => ?_, hK _ ?_⟩
  · go_at_call 106
    exact turnOf_any (some q) q _ (by omega) Zq rfl (H.out.tbx sx)
  clear hK K
  refine wpK_step (fun K hK => ?_)
  go_simp
  apply Exists.intro
  refine ⟨fun sx => ?_, hK _ ?_⟩
  · go_at_call 105
    exact turnSin_any (some q) s2 _ (by omega) Zq Es2 (H.out.tbx sx)
  clear hK K
  refine wpK_step (fun K hK => ?_)
  go_simp
  apply Exists.intro
  refine ⟨fun sx => ?_, hK _ ?_⟩
  · go_at_call 68
    exact spanOf_any (some s2) s2 _ Ss2 rfl (H.out.tbx sx)
  clear hK K
  refine wpK_step (fun K hK => ?_)
  go_simp
  apply Exists.intro
  refine ⟨fun sx => ?_, hK _ ?_⟩
  · go_at_call 104
    exact spanJoin_any (some s1) (some s1) s1 s1 (some s2) (some s2) s2 s2 l0 h0 _ (by omega) B1 B2 El0 Eh0 (H.out.tbx sx)
  clear hK K
  refine wpKeep_nil ?_
  clear H
  intro _ _ H
  (simp only [Act.put, List.setIfInBounds_toArray, List.set_cons_succ, List.set_cons_zero])
  go_wp2_with (first
      | ((with_reducible refine isSlice ?_); refine wpList_sliceH H 3 ([.int .i64 (-1), .int .i64 1]) 2 rfl rfl (by intro W; kernel_rfl) ?_; clear H; intro _ _ H; (simp only [Act.put, List.setIfInBounds_toArray, List.set_cons_succ, List.set_cons_zero]))
      | ((with_reducible refine isStore ?_); refine stA H ?_; clear H; intro _ H))
  rename_i b1 W1 b2 W2 W3 W4 b3 W5 W6 K7 hK7 b4 W8
  go_loopw [23] (fun i wr => ∃ (j : Nat) (l h : Rat), i = .int .i64 j ∧ j ≤ 2 ∧ Hid (snI p q j = (l, h)) ∧ Hid (Spn (4 * k + 8) (some l) (some h) l h) ∧ Hid (Hp w wr [(b4, 3, [.int .i64 (-1), .int .i64 1]), (b3, 26, [.bool (sgO (some l)), .string (nuO (some l)), .string (deO (some l)), .bool (sgO (some h)), .string (nuO (some h)), .string (deO (some h))]), (b2, 26, [.bool false, .string ⟨#[]⟩, .string ⟨#[]⟩, .bool false, .string ⟨#[]⟩, .string ⟨#[]⟩]), (b1, 26, [.bool (sgO (some p)), .string (nuO (some p)), .string (deO (some p)), .bool (sgO (some q)), .string (nuO (some q)), .string (deO (some q))])])) (fun i _ => 2 - (intOf i).toNat)
  case atStart => exact ⟨0, l0, h0, rfl, by omega, I0, J0, H⟩
  case round =>
    clear H
    obtain ⟨j, l, h, rfl, hj, P1, P2, H⟩ := hrel
    rcases (show j = 0 ∨ j = 1 ∨ j = 2 by omega) with rfl | rfl | rfl
    · by_cases hb0 : p ≤ ((-1 : Int) : Rat) ∧ ((-1 : Int) : Rat) ≤ q
      · obtain ⟨e, Ee⟩ : ∃ z : Rat, Hid (((-1 : Int) : Rat) = z) := ⟨_, rfl⟩
        have Ze : Hid (Sz 3 e) := szEq Ee (Sz.int (-1) (by decide))
        have Se : Hid (SmO (some e)) := Sz.o Ze (by omega)
        have BB : Hid (decide ((nmS (some p) (some q)).1 ≤ valO (some e) ∧ valO (some e) ≤ (nmS (some p) (some q)).2) = true) := by unfold Hid; rw [NPQ.out]; have h1 := Ee.out; subst h1; exact decide_eq_true hb0
        have C : Hid (Spn (4 * k + 8) (some e) (some e) e e) := (Spn.of Ze (by omega)).mono (by omega)
        obtain ⟨l2, El⟩ : ∃ z : Rat, Hid (mn l e = z) := ⟨_, rfl⟩
        obtain ⟨h2, Eh⟩ : ∃ z : Rat, Hid (mx h e = z) := ⟨_, rfl⟩
        have P4 : Hid (Spn (4 * k + 8) (some l2) (some h2) l2 h2) := Spn.join P2.out C.out El.out Eh.out (by omega)
        have P3 : Hid (snI p q 1 = (l2, h2)) := by have e1 := El.out; have e2 := Eh.out; have e3 := Ee.out; subst e1; subst e2; subst e3; exact snI_0 P1.out hb0
        clear hb0
        go_wp2_with (first
            | ((with_reducible refine isLoad ?_); refine ld1A H ?_))
        refine (ROf_any (-1) e _ (by decide) (by decide) Ee H.out.tb).mono ?_
        rintro _ _ ⟨rfl, hb⟩
        replace H := Lib.hid (H.out.go hb)
        clear hb
        go_wp2_with (first
            | ((with_reducible refine isLoad ?_); refine ldA H ?_)
            | ((with_reducible refine isStore ?_); refine stA H ?_; clear H; intro _ H)
            | ((with_reducible refine isAlloc ?_); refine alA H ?_; clear H; intro _ _ H))
        refine (spanHas_any (some p) (some q) (some e) true _ AG.out.sa AG.out.sb Se BB H.out.tb).mono ?_
        rintro _ _ ⟨rfl, hb⟩
        replace H := Lib.hid (H.out.go hb)
        clear hb
        go_wp2_with (first
            | go_skip)
        refine wp_region_T 4 H (by kernel_rfl) (by kernel_rfl) ?_
        simp only [List.take_succ_cons, List.take_zero, List.drop_succ_cons, List.drop_zero]
        repeat (first
            | ((with_reducible refine kLoad ?_); refine kldA H ?_))
        refine wpK_step (fun K hK => ?_)
        go_simp
        apply Exists.intro
        refine ⟨fun sx => ?_, hK _ ?_⟩
        · go_at_call 68
          exact spanOf_any (some e) e _ Se rfl (H.out.tbx sx)
        clear hK K
        refine wpK_step (fun K hK => ?_)
        go_simp
        apply Exists.intro
        refine ⟨fun sx => ?_, hK _ ?_⟩
        · go_at_call 104
          exact spanJoin_any (some l) (some h) l h (some e) (some e) e e l2 h2 _ (by omega) P2 C El Eh (H.out.tbx sx)
        clear hK K
        refine wpKeep_nil ?_
        clear H
        intro _ H
        go_wp2_with (first
            | ((with_reducible refine isStore ?_); refine stA H ?_; clear H; intro _ H))
        replace H := Lib.hid H.out.drop
        go_roundw
        case rel => exact ⟨1, l2, h2, by go_num, by omega, P3, P4, H⟩
        case measure => simp [intOf]
      · obtain ⟨e, Ee⟩ : ∃ z : Rat, Hid (((-1 : Int) : Rat) = z) := ⟨_, rfl⟩
        have Ze : Hid (Sz 3 e) := szEq Ee (Sz.int (-1) (by decide))
        have Se : Hid (SmO (some e)) := Sz.o Ze (by omega)
        have BB : Hid (decide ((nmS (some p) (some q)).1 ≤ valO (some e) ∧ valO (some e) ≤ (nmS (some p) (some q)).2) = false) := by unfold Hid; rw [NPQ.out]; have h1 := Ee.out; subst h1; exact decide_eq_false hb0
        have P3 : Hid (snI p q 1 = (l, h)) := snI_0n P1.out hb0
        clear hb0
        go_wp2_with (first
            | ((with_reducible refine isLoad ?_); refine ld1A H ?_))
        refine (ROf_any (-1) e _ (by decide) (by decide) Ee H.out.tb).mono ?_
        rintro _ _ ⟨rfl, hb⟩
        replace H := Lib.hid (H.out.go hb)
        clear hb
        go_wp2_with (first
            | ((with_reducible refine isLoad ?_); refine ldA H ?_)
            | ((with_reducible refine isStore ?_); refine stA H ?_; clear H; intro _ H)
            | ((with_reducible refine isAlloc ?_); refine alA H ?_; clear H; intro _ _ H))
        refine (spanHas_any (some p) (some q) (some e) false _ AG.out.sa AG.out.sb Se BB H.out.tb).mono ?_
        rintro _ _ ⟨rfl, hb⟩
        replace H := Lib.hid (H.out.go hb)
        clear hb
        go_wp2_with (first
            | go_skip)
        replace H := Lib.hid H.out.drop
        go_roundw
        case rel => exact ⟨1, l, h, by go_num, by omega, P3, P2, H⟩
        case measure => simp [intOf]
    · by_cases hb0 : p ≤ ((1 : Int) : Rat) ∧ ((1 : Int) : Rat) ≤ q
      · obtain ⟨e, Ee⟩ : ∃ z : Rat, Hid (((1 : Int) : Rat) = z) := ⟨_, rfl⟩
        have Ze : Hid (Sz 3 e) := szEq Ee (Sz.int (1) (by decide))
        have Se : Hid (SmO (some e)) := Sz.o Ze (by omega)
        have BB : Hid (decide ((nmS (some p) (some q)).1 ≤ valO (some e) ∧ valO (some e) ≤ (nmS (some p) (some q)).2) = true) := by unfold Hid; rw [NPQ.out]; have h1 := Ee.out; subst h1; exact decide_eq_true hb0
        have C : Hid (Spn (4 * k + 8) (some e) (some e) e e) := (Spn.of Ze (by omega)).mono (by omega)
        obtain ⟨l2, El⟩ : ∃ z : Rat, Hid (mn l e = z) := ⟨_, rfl⟩
        obtain ⟨h2, Eh⟩ : ∃ z : Rat, Hid (mx h e = z) := ⟨_, rfl⟩
        have P4 : Hid (Spn (4 * k + 8) (some l2) (some h2) l2 h2) := Spn.join P2.out C.out El.out Eh.out (by omega)
        have P3 : Hid (snI p q 2 = (l2, h2)) := by have e1 := El.out; have e2 := Eh.out; have e3 := Ee.out; subst e1; subst e2; subst e3; exact snI_1 P1.out hb0
        clear hb0
        go_wp2_with (first
            | ((with_reducible refine isLoad ?_); refine ld1A H ?_))
        refine (ROf_any (1) e _ (by decide) (by decide) Ee H.out.tb).mono ?_
        rintro _ _ ⟨rfl, hb⟩
        replace H := Lib.hid (H.out.go hb)
        clear hb
        go_wp2_with (first
            | ((with_reducible refine isLoad ?_); refine ldA H ?_)
            | ((with_reducible refine isStore ?_); refine stA H ?_; clear H; intro _ H)
            | ((with_reducible refine isAlloc ?_); refine alA H ?_; clear H; intro _ _ H))
        refine (spanHas_any (some p) (some q) (some e) true _ AG.out.sa AG.out.sb Se BB H.out.tb).mono ?_
        rintro _ _ ⟨rfl, hb⟩
        replace H := Lib.hid (H.out.go hb)
        clear hb
        go_wp2_with (first
            | go_skip)
        refine wp_region_T 4 H (by kernel_rfl) (by kernel_rfl) ?_
        simp only [List.take_succ_cons, List.take_zero, List.drop_succ_cons, List.drop_zero]
        repeat (first
            | ((with_reducible refine kLoad ?_); refine kldA H ?_))
        refine wpK_step (fun K hK => ?_)
        go_simp
        apply Exists.intro
        refine ⟨fun sx => ?_, hK _ ?_⟩
        · go_at_call 68
          exact spanOf_any (some e) e _ Se rfl (H.out.tbx sx)
        clear hK K
        refine wpK_step (fun K hK => ?_)
        go_simp
        apply Exists.intro
        refine ⟨fun sx => ?_, hK _ ?_⟩
        · go_at_call 104
          exact spanJoin_any (some l) (some h) l h (some e) (some e) e e l2 h2 _ (by omega) P2 C El Eh (H.out.tbx sx)
        clear hK K
        refine wpKeep_nil ?_
        clear H
        intro _ H
        go_wp2_with (first
            | ((with_reducible refine isStore ?_); refine stA H ?_; clear H; intro _ H))
        replace H := Lib.hid H.out.drop
        go_roundw
        case rel => exact ⟨2, l2, h2, by go_num, by omega, P3, P4, H⟩
        case measure => simp [intOf]
      · obtain ⟨e, Ee⟩ : ∃ z : Rat, Hid (((1 : Int) : Rat) = z) := ⟨_, rfl⟩
        have Ze : Hid (Sz 3 e) := szEq Ee (Sz.int (1) (by decide))
        have Se : Hid (SmO (some e)) := Sz.o Ze (by omega)
        have BB : Hid (decide ((nmS (some p) (some q)).1 ≤ valO (some e) ∧ valO (some e) ≤ (nmS (some p) (some q)).2) = false) := by unfold Hid; rw [NPQ.out]; have h1 := Ee.out; subst h1; exact decide_eq_false hb0
        have P3 : Hid (snI p q 2 = (l, h)) := snI_1n P1.out hb0
        clear hb0
        go_wp2_with (first
            | ((with_reducible refine isLoad ?_); refine ld1A H ?_))
        refine (ROf_any (1) e _ (by decide) (by decide) Ee H.out.tb).mono ?_
        rintro _ _ ⟨rfl, hb⟩
        replace H := Lib.hid (H.out.go hb)
        clear hb
        go_wp2_with (first
            | ((with_reducible refine isLoad ?_); refine ldA H ?_)
            | ((with_reducible refine isStore ?_); refine stA H ?_; clear H; intro _ H)
            | ((with_reducible refine isAlloc ?_); refine alA H ?_; clear H; intro _ _ H))
        refine (spanHas_any (some p) (some q) (some e) false _ AG.out.sa AG.out.sb Se BB H.out.tb).mono ?_
        rintro _ _ ⟨rfl, hb⟩
        replace H := Lib.hid (H.out.go hb)
        clear hb
        go_wp2_with (first
            | go_skip)
        replace H := Lib.hid H.out.drop
        go_roundw
        case rel => exact ⟨2, l, h, by go_num, by omega, P3, P2, H⟩
        case measure => simp [intOf]
    · have e1 : l = lo := by have h1 := P1.out; have h2 := F1.out; rw [← h2]; exact (congrArg Prod.fst h1).symm
      have e2 : h = hi := by have h1 := P1.out; have h2 := F2.out; rw [← h2]; exact (congrArg Prod.snd h1).symm
      subst e1
      subst e2
      go_wp2_with (first
          | ((with_reducible refine isLoad ?_); refine ldA H ?_)
          | ((with_reducible refine isStore ?_); refine stA H ?_; clear H; intro _ H))
      exact bodyPost_ret (results_H H Tryd.results67 (by (first | exact rRat | exact rSpan | exact rPose | exact rFrame | exact rVec | exact rTurn | exact rBox)) rfl (by (repeat (first | exact List.Mem.head _ | refine List.Mem.tail _ ?_ | assumption))) (by rfl)) rfl ⟨rfl, H.out.bel⟩
end Go.Proofs.YtolekonocbeekaaDoor

namespace Go.Proofs.YtolekonocbeekaaDoor
open Go.RowKit
set_option linter.unusedVariables false
set_option maxRecDepth 100000

set_option maxHeartbeats 4000000 in
theorem Point_any {i j k : Nat} (a1 b1 : Option Rat) (p1 q1 : Rat) (a2 b2 : Option Rat) (p2 q2 : Rat) (a3 b3 : Option Rat) (p3 q3 : Rat) (x : Option Rat) (y : Option Rat) (xl : Rat) (xh : Rat) (yl : Rat) (yh : Rat) (w : World) (hk : i + 8 * j + 2 * k ≤ 5000 ∧ j ≤ 300) (A1 : Hid (Spn i a1 b1 p1 q1)) (A2 : Hid (Spn i a2 b2 p2 q2)) (A3 : Hid (Spn j a3 b3 p3 q3)) (Zx : Hid (SzO k x)) (Zy : Hid (SzO k y)) (Fxl : Hid (ptXL p1 p3 q3 (valO x) (valO y) = xl)) (Fxh : Hid (ptXH q1 p3 q3 (valO x) (valO y) = xh)) (Fyl : Hid (ptYL p2 p3 q3 (valO x) (valO y) = yl)) (Fyh : Hid (ptYH q2 p3 q3 (valO x) (valO y) = yh)) (hT : Tb w) :
    Calls Tryd.prog 29 #[.agg #[.bool (sgO a1), .string (nuO a1), .string (deO a1), .bool (sgO b1), .string (nuO b1), .string (deO b1), .bool (sgO a2), .string (nuO a2), .string (deO a2), .bool (sgO b2), .string (nuO b2), .string (deO b2), .bool (sgO a3), .string (nuO a3), .string (deO a3), .bool (sgO b3), .string (nuO b3), .string (deO b3)], .agg #[.bool (sgO x), .string (nuO x), .string (deO x), .bool (sgO y), .string (nuO y), .string (deO y)]] w fun e w' => e = .returned (.agg #[.bool (sgO (some xl)), .string (nuO (some xl)), .string (deO (some xl)), .bool (sgO (some yl)), .string (nuO (some yl)), .string (deO (some yl)), .bool (sgO (some xh)), .string (nuO (some xh)), .string (deO (some xh)), .bool (sgO (some yh)), .string (nuO (some yh)), .string (deO (some yh))]) ∧ Below w.heap.size w w' := by
  have H := Lib.hid (Hp.start hT)
  clear hT
  have Zp1 : Hid (Sz i p1) := A1.out.zp
  have Sp1 : Hid (SmO (some p1)) := Sz.o Zp1 (by omega)
  have Zq1 : Hid (Sz i q1) := A1.out.zq
  have Sq1 : Hid (SmO (some q1)) := Sz.o Zq1 (by omega)
  have Zp2 : Hid (Sz i p2) := A2.out.zp
  have Sp2 : Hid (SmO (some p2)) := Sz.o Zp2 (by omega)
  have Zq2 : Hid (Sz i q2) := A2.out.zq
  have Sq2 : Hid (SmO (some q2)) := Sz.o Zq2 (by omega)
  have Zp3 : Hid (Sz j p3) := A3.out.zp
  have Sp3 : Hid (SmO (some p3)) := Sz.o Zp3 (by omega)
  have Zq3 : Hid (Sz j q3) := A3.out.zq
  have Sq3 : Hid (SmO (some q3)) := Sz.o Zq3 (by omega)
  have Sx : Hid (SmO x) := SzO.sm Zx (by omega)
  have Sy : Hid (SmO y) := SzO.sm Zy (by omega)
  have N1 : Hid (Spn i (some p1) (some q1) p1 q1) := A1.out.good (by omega)
  have N2 : Hid (Spn i (some p2) (some q2) p2 q2) := A2.out.good (by omega)
  have N3 : Hid (Spn j (some p3) (some q3) p3 q3) := A3.out.good (by omega)
  obtain ⟨cl, Ecl⟩ : ∃ z : Rat, Hid (csL p3 q3 = z) := ⟨_, rfl⟩
  have Zcl : Hid (Sz (4 * j + 14) cl) := szEq Ecl ((csL_sz Zp3 Zq3))
  have Scl : Hid (SmO (some cl)) := Sz.o Zcl (by omega)
  obtain ⟨ch, Ech⟩ : ∃ z : Rat, Hid (csH p3 q3 = z) := ⟨_, rfl⟩
  have Zch : Hid (Sz (4 * j + 14) ch) := szEq Ech ((csH_sz Zp3 Zq3))
  have Sch : Hid (SmO (some ch)) := Sz.o Zch (by omega)
  obtain ⟨sl, Esl⟩ : ∃ z : Rat, Hid (snL p3 q3 = z) := ⟨_, rfl⟩
  have Zsl : Hid (Sz (4 * j + 14) sl) := szEq Esl ((snL_sz Zp3 Zq3).mono (by omega))
  have Ssl : Hid (SmO (some sl)) := Sz.o Zsl (by omega)
  obtain ⟨sh, Esh⟩ : ∃ z : Rat, Hid (snH p3 q3 = z) := ⟨_, rfl⟩
  have Zsh : Hid (Sz (4 * j + 14) sh) := szEq Esh ((snH_sz Zp3 Zq3).mono (by omega))
  have Ssh : Hid (SmO (some sh)) := Sz.o Zsh (by omega)
  have C : Hid (Spn (4 * j + 14) (some cl) (some ch) cl ch) := by have h1 := Ecl.out; have h2 := Ech.out; exact Spn.two Zcl Zch (by rw [← h1, ← h2]; exact csL_le p3 q3) (by omega)
  have D : Hid (Spn (4 * j + 14) (some sl) (some sh) sl sh) := by have h1 := Esl.out; have h2 := Esh.out; exact Spn.two Zsl Zsh (by rw [← h1, ← h2]; exact snL_le p3 q3) (by omega)
  obtain ⟨vx, Evx⟩ : ∃ z : Rat, Hid (valO x = z) := ⟨_, rfl⟩
  have Zvx : Hid (Sz k vx) := szEq Evx (Zx)
  have Svx : Hid (SmO (some vx)) := Sz.o Zvx (by omega)
  have X : Hid (Spn k (some vx) (some vx) vx vx) := Spn.of Zvx (by omega)
  obtain ⟨vy, Evy⟩ : ∃ z : Rat, Hid (valO y = z) := ⟨_, rfl⟩
  have Zvy : Hid (Sz k vy) := szEq Evy (Zy)
  have Svy : Hid (SmO (some vy)) := Sz.o Zvy (by omega)
  have Y : Hid (Spn k (some vy) (some vy) vy vy) := Spn.of Zvy (by omega)
  obtain ⟨m1, Em1⟩ : ∃ z : Rat, Hid (mulL cl ch vx vx = z) := ⟨_, rfl⟩
  obtain ⟨o1, Eo1⟩ : ∃ z : Rat, Hid (mulH cl ch vx vx = z) := ⟨_, rfl⟩
  have X1 : Hid (Spn ((4 * j + 14) + k) (some m1) (some o1) m1 o1) := Spn.mul C.out X.out Em1.out Eo1.out (by omega)
  have Zm1 : Hid (Sz ((4 * j + 14) + k) m1) := X1.out.zp
  have Sm1 : Hid (SmO (some m1)) := Sz.o Zm1 (by omega)
  have Zo1 : Hid (Sz ((4 * j + 14) + k) o1) := X1.out.zq
  have So1 : Hid (SmO (some o1)) := Sz.o Zo1 (by omega)
  obtain ⟨m2, Em2⟩ : ∃ z : Rat, Hid (mulL sl sh vy vy = z) := ⟨_, rfl⟩
  obtain ⟨o2, Eo2⟩ : ∃ z : Rat, Hid (mulH sl sh vy vy = z) := ⟨_, rfl⟩
  have X2 : Hid (Spn ((4 * j + 14) + k) (some m2) (some o2) m2 o2) := Spn.mul D.out Y.out Em2.out Eo2.out (by omega)
  have Zm2 : Hid (Sz ((4 * j + 14) + k) m2) := X2.out.zp
  have Sm2 : Hid (SmO (some m2)) := Sz.o Zm2 (by omega)
  have Zo2 : Hid (Sz ((4 * j + 14) + k) o2) := X2.out.zq
  have So2 : Hid (SmO (some o2)) := Sz.o Zo2 (by omega)
  obtain ⟨m3, Em3⟩ : ∃ z : Rat, Hid (m1 - o2 = z) := ⟨_, rfl⟩
  obtain ⟨o3, Eo3⟩ : ∃ z : Rat, Hid (o1 - m2 = z) := ⟨_, rfl⟩
  have X3 : Hid (Spn (((4 * j + 14) + k) + ((4 * j + 14) + k) + 1) (some m3) (some o3) m3 o3) := Spn.sub X1.out X2.out Em3.out Eo3.out (by omega)
  have Zm3 : Hid (Sz (((4 * j + 14) + k) + ((4 * j + 14) + k) + 1) m3) := X3.out.zp
  have Sm3 : Hid (SmO (some m3)) := Sz.o Zm3 (by omega)
  have Zo3 : Hid (Sz (((4 * j + 14) + k) + ((4 * j + 14) + k) + 1) o3) := X3.out.zq
  have So3 : Hid (SmO (some o3)) := Sz.o Zo3 (by omega)
  have Exl : Hid (p1 + m3 = xl) := by have h0 := Fxl.out; have h1 := Ecl.out; have h2 := Ech.out; have h3 := Esl.out; have h4 := Esh.out; have h5 := Evx.out; have h6 := Evy.out; have h7 := Em1.out; have h8 := Eo1.out; have h9 := Em2.out; have h10 := Eo2.out; have h11 := Em3.out; have h12 := Eo3.out; subst_vars; rfl
  have Exh : Hid (q1 + o3 = xh) := by have h0 := Fxh.out; have h1 := Ecl.out; have h2 := Ech.out; have h3 := Esl.out; have h4 := Esh.out; have h5 := Evx.out; have h6 := Evy.out; have h7 := Em1.out; have h8 := Eo1.out; have h9 := Em2.out; have h10 := Eo2.out; have h11 := Em3.out; have h12 := Eo3.out; subst_vars; rfl
  obtain ⟨m4, Em4⟩ : ∃ z : Rat, Hid (mulL sl sh vx vx = z) := ⟨_, rfl⟩
  obtain ⟨o4, Eo4⟩ : ∃ z : Rat, Hid (mulH sl sh vx vx = z) := ⟨_, rfl⟩
  have Y1 : Hid (Spn ((4 * j + 14) + k) (some m4) (some o4) m4 o4) := Spn.mul D.out X.out Em4.out Eo4.out (by omega)
  have Zm4 : Hid (Sz ((4 * j + 14) + k) m4) := Y1.out.zp
  have Sm4 : Hid (SmO (some m4)) := Sz.o Zm4 (by omega)
  have Zo4 : Hid (Sz ((4 * j + 14) + k) o4) := Y1.out.zq
  have So4 : Hid (SmO (some o4)) := Sz.o Zo4 (by omega)
  obtain ⟨m5, Em5⟩ : ∃ z : Rat, Hid (mulL cl ch vy vy = z) := ⟨_, rfl⟩
  obtain ⟨o5, Eo5⟩ : ∃ z : Rat, Hid (mulH cl ch vy vy = z) := ⟨_, rfl⟩
  have Y2 : Hid (Spn ((4 * j + 14) + k) (some m5) (some o5) m5 o5) := Spn.mul C.out Y.out Em5.out Eo5.out (by omega)
  have Zm5 : Hid (Sz ((4 * j + 14) + k) m5) := Y2.out.zp
  have Sm5 : Hid (SmO (some m5)) := Sz.o Zm5 (by omega)
  have Zo5 : Hid (Sz ((4 * j + 14) + k) o5) := Y2.out.zq
  have So5 : Hid (SmO (some o5)) := Sz.o Zo5 (by omega)
  obtain ⟨m6, Em6⟩ : ∃ z : Rat, Hid (m4 + m5 = z) := ⟨_, rfl⟩
  obtain ⟨o6, Eo6⟩ : ∃ z : Rat, Hid (o4 + o5 = z) := ⟨_, rfl⟩
  have Y3 : Hid (Spn (((4 * j + 14) + k) + ((4 * j + 14) + k) + 1) (some m6) (some o6) m6 o6) := Spn.add Y1.out Y2.out Em6.out Eo6.out (by omega)
  have Zm6 : Hid (Sz (((4 * j + 14) + k) + ((4 * j + 14) + k) + 1) m6) := Y3.out.zp
  have Sm6 : Hid (SmO (some m6)) := Sz.o Zm6 (by omega)
  have Zo6 : Hid (Sz (((4 * j + 14) + k) + ((4 * j + 14) + k) + 1) o6) := Y3.out.zq
  have So6 : Hid (SmO (some o6)) := Sz.o Zo6 (by omega)
  have Eyl : Hid (p2 + m6 = yl) := by have h0 := Fyl.out; have h1 := Ecl.out; have h2 := Ech.out; have h3 := Esl.out; have h4 := Esh.out; have h5 := Evx.out; have h6 := Evy.out; have h7 := Em1.out; have h8 := Eo1.out; have h9 := Em2.out; have h10 := Eo2.out; have h11 := Em3.out; have h12 := Eo3.out; have h13 := Em4.out; have h14 := Eo4.out; have h15 := Em5.out; have h16 := Eo5.out; have h17 := Em6.out; have h18 := Eo6.out; subst_vars; rfl
  have Eyh : Hid (q2 + o6 = yh) := by have h0 := Fyh.out; have h1 := Ecl.out; have h2 := Ech.out; have h3 := Esl.out; have h4 := Esh.out; have h5 := Evx.out; have h6 := Evy.out; have h7 := Em1.out; have h8 := Eo1.out; have h9 := Em2.out; have h10 := Eo2.out; have h11 := Em3.out; have h12 := Eo3.out; have h13 := Em4.out; have h14 := Eo4.out; have h15 := Em5.out; have h16 := Eo5.out; have h17 := Em6.out; have h18 := Eo6.out; subst_vars; rfl
  go_enter Tryd.func29, Tryd.ntmps29
  go_wp2_with (first
      | ((with_reducible refine isBox ?_); refine bxA H ?_; clear H; intro _ _ H)
      | ((with_reducible refine isAlloc ?_); refine alA H ?_; clear H; intro _ _ H))
  refine wp_region_U 8 11 [.a, .a, .s] H (by kernel_rfl) (by kernel_rfl) (by kernel_rfl) (by decide) ?_
  simp only [List.take_succ_cons, List.take_zero, List.drop_succ_cons, List.drop_zero]
  repeat (first
      | ((with_reducible refine kLoad ?_); refine kldA H ?_)
      | ((fail_if_success (with_reducible refine kCall ?_)); (with_reducible refine kCons ?_); refine wpK_step (fun K hK => ?_); go_simp; refine hK _ ?_; clear hK K))
  refine wpK_step (fun K hK => ?_)
  go_simp
  apply Exists.intro
  refine ⟨fun sx => ?_, hK _ ?_⟩
  · go_at_call 61
    exact norm_any a3 b3 p3 q3 _ A3.out.sa A3.out.sb A3.out.n (H.out.tbx sx)
  clear hK K
  refine wpK_step (fun K hK => ?_)
  go_simp
  apply Exists.intro
  refine ⟨fun sx => ?_, hK _ ?_⟩
  · go_at_call 66
    exact cosSpan_any (some p3) (some q3) p3 q3 cl ch _ (by omega) N3 Ecl Ech (H.out.tbx sx)
  clear hK K
  repeat (first
      | ((with_reducible refine kLoad ?_); refine kldA H ?_)
      | ((fail_if_success (with_reducible refine kCall ?_)); (with_reducible refine kCons ?_); refine wpK_step (fun K hK => ?_); go_simp; refine hK _ ?_; clear hK K))
  refine wpK_step (fun K hK => ?_)
  go_simp
  apply Exists.intro
  refine ⟨fun sx => ?_, hK _ ?_⟩
  · go_at_call 61
    exact norm_any a3 b3 p3 q3 _ A3.out.sa A3.out.sb A3.out.n (H.out.tbx sx)
  clear hK K
  refine wpK_step (fun K hK => ?_)
  go_simp
  apply Exists.intro
  refine ⟨fun sx => ?_, hK _ ?_⟩
  · go_at_call 67
    exact sinSpan_any (some p3) (some q3) p3 q3 sl sh _ (by omega) N3 Esl Esh (H.out.tbx sx)
  clear hK K
  refine wpKeep_nil ?_
  refine wpL_A (by rfl) (by simp [Allocs, go_sem]; intro _ _; rfl) ?_
  intro _
  (simp only [Act.put, List.setIfInBounds_toArray, List.set_cons_succ, List.set_cons_zero])
  refine wpL_A (by rfl) (by simp [Allocs, go_sem]; intro _ _; rfl) ?_
  intro _
  (simp only [Act.put, List.setIfInBounds_toArray, List.set_cons_succ, List.set_cons_zero])
  refine wpL_S (by rfl) rfl rfl rfl (by (first | exact rRat | exact rSpan | exact rPose | exact rFrame | exact rVec | exact rTurn | exact rBox)) (by rfl) (by rfl) (by (repeat (first | apply Upd.head | apply Upd.tail | assumption))) (by rfl) (by (simp only [List.drop, List.take, List.nil_append, List.cons_append]); rfl) (by exact Nat.le_of_ble_eq_true rfl) (by rfl) ?_
  refine wpL_nil ?_
  clear H
  intro _ H
  go_wp2_with (first
      | ((with_reducible refine isStore ?_); refine stA H ?_; clear H; intro _ H))
  refine wp_region_U 6 9 [.a, .a, .s] H (by kernel_rfl) (by kernel_rfl) (by kernel_rfl) (by decide) ?_
  simp only [List.take_succ_cons, List.take_zero, List.drop_succ_cons, List.drop_zero]
  repeat (first
      | ((with_reducible refine kLoad ?_); refine kldA H ?_)
      | ((fail_if_success (with_reducible refine kCall ?_)); (with_reducible refine kCons ?_); refine wpK_step (fun K hK => ?_); go_simp; refine hK _ ?_; clear hK K))
  refine wpK_step (fun K hK => ?_)
  go_simp
  apply Exists.intro
  refine ⟨fun sx => ?_, hK _ ?_⟩
  · go_at_call 68
    exact spanOf_any x vx _ Sx Evx (H.out.tbx sx)
  clear hK K
  repeat (first
      | ((with_reducible refine kLoad ?_); refine kldA H ?_)
      | ((fail_if_success (with_reducible refine kCall ?_)); (with_reducible refine kCons ?_); refine wpK_step (fun K hK => ?_); go_simp; refine hK _ ?_; clear hK K))
  refine wpK_step (fun K hK => ?_)
  go_simp
  apply Exists.intro
  refine ⟨fun sx => ?_, hK _ ?_⟩
  · go_at_call 68
    exact spanOf_any y vy _ Sy Evy (H.out.tbx sx)
  clear hK K
  refine wpKeep_nil ?_
  refine wpL_A (by rfl) (by simp [Allocs, go_sem]; intro _ _; rfl) ?_
  intro _
  (simp only [Act.put, List.setIfInBounds_toArray, List.set_cons_succ, List.set_cons_zero])
  refine wpL_A (by rfl) (by simp [Allocs, go_sem]; intro _ _; rfl) ?_
  intro _
  (simp only [Act.put, List.setIfInBounds_toArray, List.set_cons_succ, List.set_cons_zero])
  refine wpL_S (by rfl) rfl rfl rfl (by (first | exact rRat | exact rSpan | exact rPose | exact rFrame | exact rVec | exact rTurn | exact rBox)) (by rfl) (by rfl) (by (repeat (first | apply Upd.head | apply Upd.tail | assumption))) (by rfl) (by (simp only [List.drop, List.take, List.nil_append, List.cons_append]); rfl) (by exact Nat.le_of_ble_eq_true rfl) (by rfl) ?_
  refine wpL_nil ?_
  clear H
  intro _ H
  go_wp2_with (first
      | ((with_reducible refine isStore ?_); refine stA H ?_; clear H; intro _ H))
  refine wp_region_F1 11 H (by kernel_rfl) (by kernel_rfl) rfl (by simp [Allocs, go_sem]; intro _ _; rfl) ?_
  simp only [List.take_succ_cons, List.take_zero, List.drop_succ_cons, List.drop_zero]
  repeat (first
      | ((with_reducible refine kLoad ?_); refine kldA H ?_)
      | ((fail_if_success (with_reducible refine kCall ?_)); (with_reducible refine kCons ?_); refine wpK_step (fun K hK => ?_); go_simp; refine hK _ ?_; clear hK K))
  refine wpK_step (fun K hK => ?_)
  go_simp
  apply Exists.intro
  refine ⟨fun sx => ?_, hK _ ?_⟩
  · go_at_call 61
    exact norm_any a1 b1 p1 q1 _ A1.out.sa A1.out.sb A1.out.n (H.out.tbx sx)
  clear hK K
  repeat (first
      | ((with_reducible refine kLoad ?_); refine kldA H ?_))
  refine wpK_step (fun K hK => ?_)
  go_simp
  apply Exists.intro
  refine ⟨fun sx => ?_, hK _ ?_⟩
  · go_at_call 71
    exact spanMul_any (some cl) (some ch) cl ch (some vx) (some vx) vx vx m1 o1 _ (by omega) C X Em1 Eo1 (H.out.tbx sx)
  clear hK K
  repeat (first
      | ((with_reducible refine kLoad ?_); refine kldA H ?_))
  refine wpK_step (fun K hK => ?_)
  go_simp
  apply Exists.intro
  refine ⟨fun sx => ?_, hK _ ?_⟩
  · go_at_call 71
    exact spanMul_any (some sl) (some sh) sl sh (some vy) (some vy) vy vy m2 o2 _ (by omega) D Y Em2 Eo2 (H.out.tbx sx)
  clear hK K
  refine wpK_step (fun K hK => ?_)
  go_simp
  apply Exists.intro
  refine ⟨fun sx => ?_, hK _ ?_⟩
  · go_at_call 70
    exact spanSub_any (some m1) (some o1) m1 o1 (some m2) (some o2) m2 o2 m3 o3 _ (by omega) X1 X2 Em3 Eo3 (H.out.tbx sx)
  clear hK K
  refine wpK_step (fun K hK => ?_)
  go_simp
  apply Exists.intro
  refine ⟨fun sx => ?_, hK _ ?_⟩
  · go_at_call 69
    exact spanAdd_any (some p1) (some q1) p1 q1 (some m3) (some o3) m3 o3 xl xh _ (by omega) N1 X3 Exl Exh (H.out.tbx sx)
  clear hK K
  refine wpKeep_nil ?_
  clear H
  intro _ _ H
  (simp only [Act.put, List.setIfInBounds_toArray, List.set_cons_succ, List.set_cons_zero])
  go_wp2_with (first
      | ((with_reducible refine isStore ?_); refine stA H ?_; clear H; intro _ H))
  refine wp_region_F1 11 H (by kernel_rfl) (by kernel_rfl) rfl (by simp [Allocs, go_sem]; intro _ _; rfl) ?_
  simp only [List.take_succ_cons, List.take_zero, List.drop_succ_cons, List.drop_zero]
  repeat (first
      | ((with_reducible refine kLoad ?_); refine kldA H ?_)
      | ((fail_if_success (with_reducible refine kCall ?_)); (with_reducible refine kCons ?_); refine wpK_step (fun K hK => ?_); go_simp; refine hK _ ?_; clear hK K))
  refine wpK_step (fun K hK => ?_)
  go_simp
  apply Exists.intro
  refine ⟨fun sx => ?_, hK _ ?_⟩
  · go_at_call 61
    exact norm_any a2 b2 p2 q2 _ A2.out.sa A2.out.sb A2.out.n (H.out.tbx sx)
  clear hK K
  repeat (first
      | ((with_reducible refine kLoad ?_); refine kldA H ?_))
  refine wpK_step (fun K hK => ?_)
  go_simp
  apply Exists.intro
  refine ⟨fun sx => ?_, hK _ ?_⟩
  · go_at_call 71
    exact spanMul_any (some sl) (some sh) sl sh (some vx) (some vx) vx vx m4 o4 _ (by omega) D X Em4 Eo4 (H.out.tbx sx)
  clear hK K
  repeat (first
      | ((with_reducible refine kLoad ?_); refine kldA H ?_))
  refine wpK_step (fun K hK => ?_)
  go_simp
  apply Exists.intro
  refine ⟨fun sx => ?_, hK _ ?_⟩
  · go_at_call 71
    exact spanMul_any (some cl) (some ch) cl ch (some vy) (some vy) vy vy m5 o5 _ (by omega) C Y Em5 Eo5 (H.out.tbx sx)
  clear hK K
  refine wpK_step (fun K hK => ?_)
  go_simp
  apply Exists.intro
  refine ⟨fun sx => ?_, hK _ ?_⟩
  · go_at_call 69
    exact spanAdd_any (some m4) (some o4) m4 o4 (some m5) (some o5) m5 o5 m6 o6 _ (by omega) Y1 Y2 Em6 Eo6 (H.out.tbx sx)
  clear hK K
  refine wpK_step (fun K hK => ?_)
  go_simp
  apply Exists.intro
  refine ⟨fun sx => ?_, hK _ ?_⟩
  · go_at_call 69
    exact spanAdd_any (some p2) (some q2) p2 q2 (some m6) (some o6) m6 o6 yl yh _ (by omega) N2 Y3 Eyl Eyh (H.out.tbx sx)
  clear hK K
  refine wpKeep_nil ?_
  clear H
  intro _ _ H
  (simp only [Act.put, List.setIfInBounds_toArray, List.set_cons_succ, List.set_cons_zero])
  go_wp2_with (first
      | ((with_reducible refine isLoad ?_); refine ldA H ?_)
      | ((with_reducible refine isStore ?_); refine stA H ?_; clear H; intro _ H))
  exact bodyPost_ret (results_H H Tryd.results29 (by (first | exact rRat | exact rSpan | exact rPose | exact rFrame | exact rVec | exact rTurn | exact rBox)) rfl (by (repeat (first | exact List.Mem.head _ | refine List.Mem.tail _ ?_ | assumption))) (by rfl)) rfl ⟨rfl, H.out.bel⟩
end Go.Proofs.YtolekonocbeekaaDoor

namespace Go.Proofs.YtolekonocbeekaaDoor
open Go.RowKit
set_option linter.unusedVariables false
set_option maxRecDepth 100000

set_option maxHeartbeats 4000000 in
theorem turnThen_any {j k : Nat} (a : Option Rat) (b : Option Rat) (t : Rat) (w : World) (hk : j + k ≤ 4000) (Za : Hid (SzO j a)) (Zb : Hid (SzO k b)) (Hd : Hid (((1 : Int) : Rat) - valO a * valO b ≠ 0)) (Ft : Hid ((valO a + valO b) / (((1 : Int) : Rat) - valO a * valO b) = t)) (hT : Tb w) :
    Calls Tryd.prog 80 #[.agg #[.bool false, .bool (sgO a), .string (nuO a), .string (deO a)], .agg #[.bool false, .bool (sgO b), .string (nuO b), .string (deO b)]] w fun e w' => e = .returned (.agg #[.bool false, .bool (sgO (some t)), .string (nuO (some t)), .string (deO (some t))]) ∧ Below w.heap.size w w' := by
  have H := Lib.hid (Hp.start hT)
  clear hT
  have Sa : Hid (SmO a) := SzO.sm Za (by omega)
  have Sb : Hid (SmO b) := SzO.sm Zb (by omega)
  obtain ⟨p, Ep⟩ : ∃ z : Rat, Hid (valO a = z) := ⟨_, rfl⟩
  have Zp : Hid (Sz j p) := szEq Ep (Za)
  have Sp : Hid (SmO (some p)) := Sz.o Zp (by omega)
  obtain ⟨q, Eq⟩ : ∃ z : Rat, Hid (valO b = z) := ⟨_, rfl⟩
  have Zq : Hid (Sz k q) := szEq Eq (Zb)
  have Sq : Hid (SmO (some q)) := Sz.o Zq (by omega)
  obtain ⟨s, Es⟩ : ∃ z : Rat, Hid (p + q = z) := ⟨_, rfl⟩
  have Zs : Hid (Sz (j + k + 1) s) := szEq Es (Sz.add Zp Zq)
  have Ss : Hid (SmO (some s)) := Sz.o Zs (by omega)
  obtain ⟨o, Eo⟩ : ∃ z : Rat, Hid (((1 : Int) : Rat) = z) := ⟨_, rfl⟩
  have Zo : Hid (Sz 3 o) := szEq Eo (Sz.int (1) (by decide))
  have So : Hid (SmO (some o)) := Sz.o Zo (by omega)
  obtain ⟨m, Em⟩ : ∃ z : Rat, Hid (p * q = z) := ⟨_, rfl⟩
  have Zm : Hid (Sz (j + k) m) := szEq Em (Sz.mul Zp Zq)
  have Sm : Hid (SmO (some m)) := Sz.o Zm (by omega)
  obtain ⟨d, Ed⟩ : ∃ z : Rat, Hid (o - m = z) := ⟨_, rfl⟩
  have Zd : Hid (Sz (3 + (j + k) + 1) d) := szEq Ed (Sz.sub Zo Zm)
  have Sd : Hid (SmO (some d)) := Sz.o Zd (by omega)
  have Nd : Hid (valO (some d) ≠ 0) := by have h0 := Hd.out; have h1 := Ep.out; have h2 := Eq.out; have h3 := Em.out; have h4 := Ed.out; have h5 := Eo.out; subst_vars; exact h0
  have Et : Hid (s / d = t) := by have h0 := Ft.out; have h1 := Ep.out; have h2 := Eq.out; have h3 := Es.out; have h4 := Eo.out; have h5 := Em.out; have h6 := Ed.out; subst_vars; rfl
  have Zt : Hid (Sz ((j + k + 1) + (3 + (j + k) + 1)) t) := szEq Et (Sz.div Zs Zd Nd)
  have St : Hid (SmO (some t)) := Sz.o Zt (by omega)
  have Et2 : Hid (valO (some t) = t) := rfl
  go_enter Tryd.func80, Tryd.ntmps80
  go_wp2_with (first
      | ((with_reducible refine isBox ?_); refine bxA H ?_; clear H; intro _ _ H)
      | ((with_reducible refine isAlloc ?_); refine alA H ?_; clear H; intro _ _ H))
  refine wp_region_T 4 H (by kernel_rfl) (by kernel_rfl) ?_
  simp only [List.take_succ_cons, List.take_zero, List.drop_succ_cons, List.drop_zero]
  repeat (first
      | ((with_reducible refine kLoad ?_); refine kldA H ?_))
  refine wpK_step (fun K hK => ?_)
  go_simp
  apply Exists.intro
  refine ⟨fun sx => ?_, hK _ ?_⟩
  · go_at_call 110
    exact turnFit_any a p _ (by omega) Za Ep (H.out.tbx sx)
  clear hK K
  repeat (first
      | ((with_reducible refine kLoad ?_); refine kldA H ?_))
  refine wpK_step (fun K hK => ?_)
  go_simp
  apply Exists.intro
  refine ⟨fun sx => ?_, hK _ ?_⟩
  · go_at_call 110
    exact turnFit_any b q _ (by omega) Zb Eq (H.out.tbx sx)
  clear hK K
  refine wpKeep_nil ?_
  clear H
  intro _ H
  go_wp2_with (first
      | go_skip
      | ((with_reducible refine isLoad ?_); refine ld1A H ?_)
      | ((with_reducible refine isStore ?_); refine stA H ?_; clear H; intro _ H))
  refine wp_region_G (vs := [.bool (sgO (some t)), .string (nuO (some t)), .string (deO (some t))]) 16 H (by kernel_rfl) (by kernel_rfl) rfl rfl (by simp [Allocs, go_sem]; intro _ _; rfl) (by kernel_rfl) rfl rfl ?_
  simp only [List.take_succ_cons, List.take_zero, List.drop_succ_cons, List.drop_zero]
  repeat (first
      | ((with_reducible refine kLoad ?_); refine kldA H ?_)
      | ((fail_if_success (with_reducible refine kCall ?_)); (with_reducible refine kCons ?_); refine wpK_step (fun K hK => ?_); go_simp; refine hK _ ?_; clear hK K))
  refine wpK_step (fun K hK => ?_)
  go_simp
  apply Exists.intro
  refine ⟨fun sx => ?_, hK _ ?_⟩
  · go_at_call 20
    exact RAdd_any (some p) (some q) s _ Sp Sq Es (H.out.tbx sx)
  clear hK K
  refine wpK_step (fun K hK => ?_)
  go_simp
  apply Exists.intro
  refine ⟨fun sx => ?_, hK _ ?_⟩
  · go_at_call 35
    exact ROf_any (1) o _ (by decide) (by decide) Eo (H.out.tbx sx)
  clear hK K
  repeat (first
      | ((with_reducible refine kLoad ?_); refine kldA H ?_)
      | ((fail_if_success (with_reducible refine kCall ?_)); (with_reducible refine kCons ?_); refine wpK_step (fun K hK => ?_); go_simp; refine hK _ ?_; clear hK K))
  refine wpK_step (fun K hK => ?_)
  go_simp
  apply Exists.intro
  refine ⟨fun sx => ?_, hK _ ?_⟩
  · go_at_call 86
    exact RMul_any (some p) (some q) m _ Sp Sq Em (H.out.tbx sx)
  clear hK K
  refine wpK_step (fun K hK => ?_)
  go_simp
  apply Exists.intro
  refine ⟨fun sx => ?_, hK _ ?_⟩
  · go_at_call 19
    exact RSub_any (some o) (some m) d _ So Sm Ed (H.out.tbx sx)
  clear hK K
  refine wpK_step (fun K hK => ?_)
  go_simp
  apply Exists.intro
  refine ⟨fun sx => ?_, hK _ ?_⟩
  · go_at_call 62
    exact RDiv_any (some s) (some d) t _ Ss Sd Nd Et (H.out.tbx sx)
  clear hK K
  repeat (first
      | ((fail_if_success (with_reducible refine kCall ?_)); (with_reducible refine kCons ?_); refine wpK_step (fun K hK => ?_); go_simp; refine hK _ ?_; clear hK K))
  refine wpKeep_nil ?_
  intro _
  (simp only [Act.put, List.setIfInBounds_toArray, List.set_cons_succ, List.set_cons_zero])
  refine ⟨⟨⟨_, _, _, rfl, by (first | exact rRat | exact rSpan | exact rPose | exact rFrame | exact rVec | exact rTurn | exact rBox), rfl, rfl⟩, rfl, rfl, rfl, rfl⟩, ?_⟩
  clear H
  intro _ H
  go_wp2_with (first
      | ((with_reducible refine isLoad ?_); refine ldA H ?_))
  refine (turnOf_any (some t) t _ (by omega) Zt Et2 H.out.tb).mono ?_
  rintro _ _ ⟨rfl, hb⟩
  replace H := Lib.hid (H.out.go hb)
  clear hb
  go_wp2_with (first
      | ((with_reducible refine isStore ?_); refine stA H ?_; clear H; intro _ H))
  exact bodyPost_ret (results_H H Tryd.results80 (by (first | exact rRat | exact rSpan | exact rPose | exact rFrame | exact rVec | exact rTurn | exact rBox)) rfl (by (repeat (first | exact List.Mem.head _ | refine List.Mem.tail _ ?_ | assumption))) (by rfl)) rfl ⟨rfl, H.out.bel⟩
end Go.Proofs.YtolekonocbeekaaDoor

namespace Go.Proofs.YtolekonocbeekaaDoor
open Go.RowKit
set_option linter.unusedVariables false
set_option maxRecDepth 100000

set_option maxHeartbeats 4000000 in
theorem turnThen_half {j k : Nat} (a : Option Rat) (b : Option Rat) (z : Rat) (w : World) (hk : j + k ≤ 4000) (Za : Hid (SzO j a)) (Zb : Hid (SzO k b)) (Hd : Hid (((1 : Int) : Rat) - valO a * valO b = 0)) (Ez : Hid (((0 : Int) : Rat) = z)) (hT : Tb w) :
    Calls Tryd.prog 80 #[.agg #[.bool false, .bool (sgO a), .string (nuO a), .string (deO a)], .agg #[.bool false, .bool (sgO b), .string (nuO b), .string (deO b)]] w fun e w' => e = .returned (.agg #[.bool true, .bool (sgO (some z)), .string (nuO (some z)), .string (deO (some z))]) ∧ Below w.heap.size w w' := by
  have H := Lib.hid (Hp.start hT)
  clear hT
  have Sa : Hid (SmO a) := SzO.sm Za (by omega)
  have Sb : Hid (SmO b) := SzO.sm Zb (by omega)
  obtain ⟨p, Ep⟩ : ∃ z : Rat, Hid (valO a = z) := ⟨_, rfl⟩
  have Zp : Hid (Sz j p) := szEq Ep (Za)
  have Sp : Hid (SmO (some p)) := Sz.o Zp (by omega)
  obtain ⟨q, Eq⟩ : ∃ z : Rat, Hid (valO b = z) := ⟨_, rfl⟩
  have Zq : Hid (Sz k q) := szEq Eq (Zb)
  have Sq : Hid (SmO (some q)) := Sz.o Zq (by omega)
  obtain ⟨s, Es⟩ : ∃ z : Rat, Hid (p + q = z) := ⟨_, rfl⟩
  have Zs : Hid (Sz (j + k + 1) s) := szEq Es (Sz.add Zp Zq)
  have Ss : Hid (SmO (some s)) := Sz.o Zs (by omega)
  obtain ⟨o, Eo⟩ : ∃ z : Rat, Hid (((1 : Int) : Rat) = z) := ⟨_, rfl⟩
  have Zo : Hid (Sz 3 o) := szEq Eo (Sz.int (1) (by decide))
  have So : Hid (SmO (some o)) := Sz.o Zo (by omega)
  obtain ⟨m, Em⟩ : ∃ z : Rat, Hid (p * q = z) := ⟨_, rfl⟩
  have Zm : Hid (Sz (j + k) m) := szEq Em (Sz.mul Zp Zq)
  have Sm : Hid (SmO (some m)) := Sz.o Zm (by omega)
  obtain ⟨d, Ed⟩ : ∃ z : Rat, Hid (o - m = z) := ⟨_, rfl⟩
  have Zd : Hid (Sz (3 + (j + k) + 1) d) := szEq Ed (Sz.sub Zo Zm)
  have Sd : Hid (SmO (some d)) := Sz.o Zd (by omega)
  have Nd : Hid (valO (some d) = 0) := by have h0 := Hd.out; have h1 := Ep.out; have h2 := Eq.out; have h3 := Em.out; have h4 := Ed.out; have h5 := Eo.out; subst_vars; exact h0
  go_enter Tryd.func80, Tryd.ntmps80
  go_wp2_with (first
      | ((with_reducible refine isBox ?_); refine bxA H ?_; clear H; intro _ _ H)
      | ((with_reducible refine isAlloc ?_); refine alA H ?_; clear H; intro _ _ H))
  refine wp_region_T 4 H (by kernel_rfl) (by kernel_rfl) ?_
  simp only [List.take_succ_cons, List.take_zero, List.drop_succ_cons, List.drop_zero]
  repeat (first
      | ((with_reducible refine kLoad ?_); refine kldA H ?_))
  refine wpK_step (fun K hK => ?_)
  go_simp
  apply Exists.intro
  refine ⟨fun sx => ?_, hK _ ?_⟩
  · go_at_call 110
    exact turnFit_any a p _ (by omega) Za Ep (H.out.tbx sx)
  clear hK K
  repeat (first
      | ((with_reducible refine kLoad ?_); refine kldA H ?_))
  refine wpK_step (fun K hK => ?_)
  go_simp
  apply Exists.intro
  refine ⟨fun sx => ?_, hK _ ?_⟩
  · go_at_call 110
    exact turnFit_any b q _ (by omega) Zb Eq (H.out.tbx sx)
  clear hK K
  refine wpKeep_nil ?_
  clear H
  intro _ H
  go_wp2_with (first
      | go_skip
      | ((with_reducible refine isLoad ?_); refine ld1A H ?_)
      | ((with_reducible refine isStore ?_); refine stA H ?_; clear H; intro _ H))
  refine wp_region_G (vs := [.bool false, .string ⟨#[]⟩, .string ⟨#[]⟩]) 16 H (by kernel_rfl) (by kernel_rfl) rfl rfl (by simp [Allocs, go_sem]; intro _ _; rfl) (by kernel_rfl) rfl rfl ?_
  simp only [List.take_succ_cons, List.take_zero, List.drop_succ_cons, List.drop_zero]
  repeat (first
      | ((with_reducible refine kLoad ?_); refine kldA H ?_)
      | ((fail_if_success (with_reducible refine kCall ?_)); (with_reducible refine kCons ?_); refine wpK_step (fun K hK => ?_); go_simp; refine hK _ ?_; clear hK K))
  refine wpK_step (fun K hK => ?_)
  go_simp
  apply Exists.intro
  refine ⟨fun sx => ?_, hK _ ?_⟩
  · go_at_call 20
    exact RAdd_any (some p) (some q) s _ Sp Sq Es (H.out.tbx sx)
  clear hK K
  refine wpK_step (fun K hK => ?_)
  go_simp
  apply Exists.intro
  refine ⟨fun sx => ?_, hK _ ?_⟩
  · go_at_call 35
    exact ROf_any (1) o _ (by decide) (by decide) Eo (H.out.tbx sx)
  clear hK K
  repeat (first
      | ((with_reducible refine kLoad ?_); refine kldA H ?_)
      | ((fail_if_success (with_reducible refine kCall ?_)); (with_reducible refine kCons ?_); refine wpK_step (fun K hK => ?_); go_simp; refine hK _ ?_; clear hK K))
  refine wpK_step (fun K hK => ?_)
  go_simp
  apply Exists.intro
  refine ⟨fun sx => ?_, hK _ ?_⟩
  · go_at_call 86
    exact RMul_any (some p) (some q) m _ Sp Sq Em (H.out.tbx sx)
  clear hK K
  refine wpK_step (fun K hK => ?_)
  go_simp
  apply Exists.intro
  refine ⟨fun sx => ?_, hK _ ?_⟩
  · go_at_call 19
    exact RSub_any (some o) (some m) d _ So Sm Ed (H.out.tbx sx)
  clear hK K
  refine wpK_step (fun K hK => ?_)
  go_simp
  apply Exists.intro
  refine ⟨fun sx => ?_, hK _ ?_⟩
  · go_at_call 62
    exact RDiv_zero (some s) (some d) _ Ss Sd Nd (H.out.tbx sx)
  clear hK K
  repeat (first
      | ((fail_if_success (with_reducible refine kCall ?_)); (with_reducible refine kCons ?_); refine wpK_step (fun K hK => ?_); go_simp; refine hK _ ?_; clear hK K))
  refine wpKeep_nil ?_
  intro _
  (simp only [Act.put, List.setIfInBounds_toArray, List.set_cons_succ, List.set_cons_zero])
  refine ⟨⟨⟨_, _, _, rfl, by (first | exact rRat | exact rSpan | exact rPose | exact rFrame | exact rVec | exact rTurn | exact rBox), rfl, rfl⟩, rfl, rfl, rfl, rfl⟩, ?_⟩
  clear H
  intro _ H
  go_wp2_with (first
      | go_skip)
  refine (halfTurn_any (k := 3) z _ (by omega) Ez H.out.tb).mono ?_
  rintro _ _ ⟨rfl, hb⟩
  replace H := Lib.hid (H.out.go hb)
  clear hb
  go_wp2_with (first
      | ((with_reducible refine isStore ?_); refine stA H ?_; clear H; intro _ H))
  exact bodyPost_ret (results_H H Tryd.results80 (by (first | exact rRat | exact rSpan | exact rPose | exact rFrame | exact rVec | exact rTurn | exact rBox)) rfl (by (repeat (first | exact List.Mem.head _ | refine List.Mem.tail _ ?_ | assumption))) (by rfl)) rfl ⟨rfl, H.out.bel⟩
end Go.Proofs.YtolekonocbeekaaDoor

namespace Go.Proofs.YtolekonocbeekaaDoor
open Go.RowKit
set_option linter.unusedVariables false
set_option maxRecDepth 100000

set_option maxHeartbeats 4000000 in
theorem vecAdd_any {j k : Nat} (a : Option Rat) (b : Option Rat) (c : Option Rat) (d : Option Rat) (u : Rat) (v : Rat) (w : World) (hk : j + k ≤ 8000) (Za : Hid (SzO j a)) (Zb : Hid (SzO j b)) (Zc : Hid (SzO k c)) (Zd : Hid (SzO k d)) (Eu : Hid ((valO a) + (valO c) = u)) (Ev : Hid ((valO b) + (valO d) = v)) (hT : Tb w) :
    Calls Tryd.prog 72 #[.agg #[.bool (sgO a), .string (nuO a), .string (deO a), .bool (sgO b), .string (nuO b), .string (deO b)], .agg #[.bool (sgO c), .string (nuO c), .string (deO c), .bool (sgO d), .string (nuO d), .string (deO d)]] w fun e w' => e = .returned (.agg #[.bool (sgO (some u)), .string (nuO (some u)), .string (deO (some u)), .bool (sgO (some v)), .string (nuO (some v)), .string (deO (some v))]) ∧ Below w.heap.size w w' := by
  have H := Lib.hid (Hp.start hT)
  clear hT
  have Sa : Hid (SmO a) := SzO.sm Za (by omega)
  have Sb : Hid (SmO b) := SzO.sm Zb (by omega)
  have Sc : Hid (SmO c) := SzO.sm Zc (by omega)
  have Sd : Hid (SmO d) := SzO.sm Zd (by omega)
  have Zu : Hid (Sz (j + k + 1) u) := szEq Eu (Sz.add Za Zc)
  have Su : Hid (SmO (some u)) := Sz.o Zu (by omega)
  have Zv : Hid (Sz (j + k + 1) v) := szEq Ev (Sz.add Zb Zd)
  have Sv : Hid (SmO (some v)) := Sz.o Zv (by omega)
  go_enter Tryd.func72, Tryd.ntmps72
  go_wp2_with (first
      | ((with_reducible refine isBox ?_); refine bxA H ?_; clear H; intro _ _ H)
      | ((with_reducible refine isAlloc ?_); refine alA H ?_; clear H; intro _ _ H))
  refine wp_region_T 11 H (by kernel_rfl) (by kernel_rfl) ?_
  simp only [List.take_succ_cons, List.take_zero, List.drop_succ_cons, List.drop_zero]
  repeat (first
      | ((with_reducible refine kLoad ?_); refine kldA H ?_)
      | ((fail_if_success (with_reducible refine kCall ?_)); (with_reducible refine kCons ?_); refine wpK_step (fun K hK => ?_); go_simp; refine hK _ ?_; clear hK K))
  refine wpK_step (fun K hK => ?_)
  go_simp
  apply Exists.intro
  refine ⟨fun sx => ?_, hK _ ?_⟩
  · go_at_call 20
    exact RAdd_any a c u _ Sa Sc Eu (H.out.tbx sx)
  clear hK K
  repeat (first
      | ((with_reducible refine kLoad ?_); refine kldA H ?_)
      | ((fail_if_success (with_reducible refine kCall ?_)); (with_reducible refine kCons ?_); refine wpK_step (fun K hK => ?_); go_simp; refine hK _ ?_; clear hK K))
  refine wpK_step (fun K hK => ?_)
  go_simp
  apply Exists.intro
  refine ⟨fun sx => ?_, hK _ ?_⟩
  · go_at_call 20
    exact RAdd_any b d v _ Sb Sd Ev (H.out.tbx sx)
  clear hK K
  repeat (first
      | ((fail_if_success (with_reducible refine kCall ?_)); (with_reducible refine kCons ?_); refine wpK_step (fun K hK => ?_); go_simp; refine hK _ ?_; clear hK K))
  refine wpKeep_nil ?_
  clear H
  intro _ H
  go_wp2_with (first
      | ((with_reducible refine isStore ?_); refine stA H ?_; clear H; intro _ H))
  exact bodyPost_ret (results_H H Tryd.results72 (by (first | exact rRat | exact rSpan | exact rPose | exact rFrame | exact rVec | exact rTurn | exact rBox)) rfl (by (repeat (first | exact List.Mem.head _ | refine List.Mem.tail _ ?_ | assumption))) (by rfl)) rfl ⟨rfl, H.out.bel⟩
end Go.Proofs.YtolekonocbeekaaDoor

namespace Go.Proofs.YtolekonocbeekaaDoor
open Go.RowKit
set_option linter.unusedVariables false
set_option maxRecDepth 100000

set_option maxHeartbeats 4000000 in
theorem vecSub_any {j k : Nat} (a : Option Rat) (b : Option Rat) (c : Option Rat) (d : Option Rat) (u : Rat) (v : Rat) (w : World) (hk : j + k ≤ 8000) (Za : Hid (SzO j a)) (Zb : Hid (SzO j b)) (Zc : Hid (SzO k c)) (Zd : Hid (SzO k d)) (Eu : Hid ((valO a) - (valO c) = u)) (Ev : Hid ((valO b) - (valO d) = v)) (hT : Tb w) :
    Calls Tryd.prog 82 #[.agg #[.bool (sgO a), .string (nuO a), .string (deO a), .bool (sgO b), .string (nuO b), .string (deO b)], .agg #[.bool (sgO c), .string (nuO c), .string (deO c), .bool (sgO d), .string (nuO d), .string (deO d)]] w fun e w' => e = .returned (.agg #[.bool (sgO (some u)), .string (nuO (some u)), .string (deO (some u)), .bool (sgO (some v)), .string (nuO (some v)), .string (deO (some v))]) ∧ Below w.heap.size w w' := by
  have H := Lib.hid (Hp.start hT)
  clear hT
  have Sa : Hid (SmO a) := SzO.sm Za (by omega)
  have Sb : Hid (SmO b) := SzO.sm Zb (by omega)
  have Sc : Hid (SmO c) := SzO.sm Zc (by omega)
  have Sd : Hid (SmO d) := SzO.sm Zd (by omega)
  have Zu : Hid (Sz (j + k + 1) u) := szEq Eu (Sz.sub Za Zc)
  have Su : Hid (SmO (some u)) := Sz.o Zu (by omega)
  have Zv : Hid (Sz (j + k + 1) v) := szEq Ev (Sz.sub Zb Zd)
  have Sv : Hid (SmO (some v)) := Sz.o Zv (by omega)
  go_enter Tryd.func82, Tryd.ntmps82
  go_wp2_with (first
      | ((with_reducible refine isBox ?_); refine bxA H ?_; clear H; intro _ _ H)
      | ((with_reducible refine isAlloc ?_); refine alA H ?_; clear H; intro _ _ H))
  refine wp_region_T 11 H (by kernel_rfl) (by kernel_rfl) ?_
  simp only [List.take_succ_cons, List.take_zero, List.drop_succ_cons, List.drop_zero]
  repeat (first
      | ((with_reducible refine kLoad ?_); refine kldA H ?_)
      | ((fail_if_success (with_reducible refine kCall ?_)); (with_reducible refine kCons ?_); refine wpK_step (fun K hK => ?_); go_simp; refine hK _ ?_; clear hK K))
  refine wpK_step (fun K hK => ?_)
  go_simp
  apply Exists.intro
  refine ⟨fun sx => ?_, hK _ ?_⟩
  · go_at_call 19
    exact RSub_any a c u _ Sa Sc Eu (H.out.tbx sx)
  clear hK K
  repeat (first
      | ((with_reducible refine kLoad ?_); refine kldA H ?_)
      | ((fail_if_success (with_reducible refine kCall ?_)); (with_reducible refine kCons ?_); refine wpK_step (fun K hK => ?_); go_simp; refine hK _ ?_; clear hK K))
  refine wpK_step (fun K hK => ?_)
  go_simp
  apply Exists.intro
  refine ⟨fun sx => ?_, hK _ ?_⟩
  · go_at_call 19
    exact RSub_any b d v _ Sb Sd Ev (H.out.tbx sx)
  clear hK K
  repeat (first
      | ((fail_if_success (with_reducible refine kCall ?_)); (with_reducible refine kCons ?_); refine wpK_step (fun K hK => ?_); go_simp; refine hK _ ?_; clear hK K))
  refine wpKeep_nil ?_
  clear H
  intro _ H
  go_wp2_with (first
      | ((with_reducible refine isStore ?_); refine stA H ?_; clear H; intro _ H))
  exact bodyPost_ret (results_H H Tryd.results82 (by (first | exact rRat | exact rSpan | exact rPose | exact rFrame | exact rVec | exact rTurn | exact rBox)) rfl (by (repeat (first | exact List.Mem.head _ | refine List.Mem.tail _ ?_ | assumption))) (by rfl)) rfl ⟨rfl, H.out.bel⟩
end Go.Proofs.YtolekonocbeekaaDoor

namespace Go.Proofs.YtolekonocbeekaaDoor
open Go.RowKit
set_option linter.unusedVariables false
set_option maxRecDepth 100000

theorem szrx {j k : Nat} {v x y : Rat} (h : Sz j v) (hx : Sz k x) (hy : Sz k y) : Sz (2 * k + 8 * j + 17) (rotX v x y) := ((hx.mul h.cosQ).sub (hy.mul h.sinQ)).mono (by omega)
theorem szry {j k : Nat} {v x y : Rat} (h : Sz j v) (hx : Sz k x) (hy : Sz k y) : Sz (2 * k + 8 * j + 17) (rotY v x y) := ((hx.mul h.sinQ).add (hy.mul h.cosQ)).mono (by omega)
set_option maxHeartbeats 4000000 in
theorem vecTurn_any {j k : Nat} (x : Option Rat) (y : Option Rat) (r : Option Rat) (u : Rat) (v : Rat) (w : World) (hk : k ≤ 4000 ∧ j ≤ 100) (Zx : Hid (SzO k x)) (Zy : Hid (SzO k y)) (Zr : Hid (SzO j r)) (Fu : Hid (rotX (valO r) (valO x) (valO y) = u)) (Fv : Hid (rotY (valO r) (valO x) (valO y) = v)) (hT : Tb w) :
    Calls Tryd.prog 73 #[.agg #[.bool (sgO x), .string (nuO x), .string (deO x), .bool (sgO y), .string (nuO y), .string (deO y)], .agg #[.bool false, .bool (sgO r), .string (nuO r), .string (deO r)]] w fun e w' => e = .returned (.agg #[.bool (sgO (some u)), .string (nuO (some u)), .string (deO (some u)), .bool (sgO (some v)), .string (nuO (some v)), .string (deO (some v))]) ∧ Below w.heap.size w w' := by
  have H := Lib.hid (Hp.start hT)
  clear hT
  have Sx : Hid (SmO x) := SzO.sm Zx (by omega)
  have Sy : Hid (SmO y) := SzO.sm Zy (by omega)
  have Sr : Hid (SmO r) := SzO.sm Zr (by omega)
  obtain ⟨c, Ec⟩ : ∃ z : Rat, Hid (cosQ (valO r) = z) := ⟨_, rfl⟩
  have Zc : Hid (Sz (4 * j + 8) c) := szEq Ec (Sz.cosQ Zr)
  have Sc : Hid (SmO (some c)) := Sz.o Zc (by omega)
  obtain ⟨s, Es⟩ : ∃ z : Rat, Hid (sinQ (valO r) = z) := ⟨_, rfl⟩
  have Zs : Hid (Sz (4 * j + 8) s) := szEq Es (Sz.sinQ Zr)
  have Ss : Hid (SmO (some s)) := Sz.o Zs (by omega)
  obtain ⟨m1, Em1⟩ : ∃ z : Rat, Hid ((valO x) * c = z) := ⟨_, rfl⟩
  have Zm1 : Hid (Sz (k + (4 * j + 8)) m1) := szEq Em1 (Sz.mul Zx Zc)
  have Sm1 : Hid (SmO (some m1)) := Sz.o Zm1 (by omega)
  obtain ⟨m2, Em2⟩ : ∃ z : Rat, Hid ((valO y) * s = z) := ⟨_, rfl⟩
  have Zm2 : Hid (Sz (k + (4 * j + 8)) m2) := szEq Em2 (Sz.mul Zy Zs)
  have Sm2 : Hid (SmO (some m2)) := Sz.o Zm2 (by omega)
  obtain ⟨m3, Em3⟩ : ∃ z : Rat, Hid ((valO x) * s = z) := ⟨_, rfl⟩
  have Zm3 : Hid (Sz (k + (4 * j + 8)) m3) := szEq Em3 (Sz.mul Zx Zs)
  have Sm3 : Hid (SmO (some m3)) := Sz.o Zm3 (by omega)
  obtain ⟨m4, Em4⟩ : ∃ z : Rat, Hid ((valO y) * c = z) := ⟨_, rfl⟩
  have Zm4 : Hid (Sz (k + (4 * j + 8)) m4) := szEq Em4 (Sz.mul Zy Zc)
  have Sm4 : Hid (SmO (some m4)) := Sz.o Zm4 (by omega)
  have Eu : Hid (m1 - m2 = u) := by have h0 := Fu.out; have h1 := Ec.out; have h2 := Es.out; have h3 := Em1.out; have h4 := Em2.out; have h5 := Em3.out; have h6 := Em4.out; subst_vars; rfl
  have Zu : Hid (Sz ((k + (4 * j + 8)) + (k + (4 * j + 8)) + 1) u) := szEq Eu (Sz.sub Zm1 Zm2)
  have Su : Hid (SmO (some u)) := Sz.o Zu (by omega)
  have Ev : Hid (m3 + m4 = v) := by have h0 := Fv.out; have h1 := Ec.out; have h2 := Es.out; have h3 := Em1.out; have h4 := Em2.out; have h5 := Em3.out; have h6 := Em4.out; subst_vars; rfl
  have Zv : Hid (Sz ((k + (4 * j + 8)) + (k + (4 * j + 8)) + 1) v) := szEq Ev (Sz.add Zm3 Zm4)
  have Sv : Hid (SmO (some v)) := Sz.o Zv (by omega)
  go_enter Tryd.func73, Tryd.ntmps73
  go_wp2_with (first
      | ((with_reducible refine isBox ?_); refine bxA H ?_; clear H; intro _ _ H)
      | ((with_reducible refine isAlloc ?_); refine alA H ?_; clear H; intro _ _ H))
  refine wp_region_F1 5 H (by kernel_rfl) (by kernel_rfl) rfl (by simp [Allocs, go_sem]; intro _ _; rfl) ?_
  simp only [List.take_succ_cons, List.take_zero, List.drop_succ_cons, List.drop_zero]
  repeat (first
      | ((with_reducible refine kLoad ?_); refine kldA H ?_))
  refine wpK_step (fun K hK => ?_)
  go_simp
  apply Exists.intro
  refine ⟨fun sx => ?_, hK _ ?_⟩
  · go_at_call 108
    exact turnCos_any r c _ (by omega) Zr Ec (H.out.tbx sx)
  clear hK K
  repeat (first
      | ((with_reducible refine kLoad ?_); refine kldA H ?_))
  refine wpK_step (fun K hK => ?_)
  go_simp
  apply Exists.intro
  refine ⟨fun sx => ?_, hK _ ?_⟩
  · go_at_call 105
    exact turnSin_any r s _ (by omega) Zr Es (H.out.tbx sx)
  clear hK K
  repeat (first
      | ((fail_if_success (with_reducible refine kCall ?_)); (with_reducible refine kCons ?_); refine wpK_step (fun K hK => ?_); go_simp; refine hK _ ?_; clear hK K))
  refine wpKeep_nil ?_
  clear H
  intro _ _ H
  (simp only [Act.put, List.setIfInBounds_toArray, List.set_cons_succ, List.set_cons_zero])
  go_wp2_with (first
      | ((with_reducible refine isStore ?_); refine stA H ?_; clear H; intro _ H))
  refine wp_region_T 23 H (by kernel_rfl) (by kernel_rfl) ?_
  simp only [List.take_succ_cons, List.take_zero, List.drop_succ_cons, List.drop_zero]
  repeat (first
      | ((with_reducible refine kLoad ?_); refine kldA H ?_)
      | ((fail_if_success (with_reducible refine kCall ?_)); (with_reducible refine kCons ?_); refine wpK_step (fun K hK => ?_); go_simp; refine hK _ ?_; clear hK K))
  refine wpK_step (fun K hK => ?_)
  go_simp
  apply Exists.intro
  refine ⟨fun sx => ?_, hK _ ?_⟩
  · go_at_call 86
    exact RMul_any x (some c) m1 _ Sx Sc Em1 (H.out.tbx sx)
  clear hK K
  repeat (first
      | ((with_reducible refine kLoad ?_); refine kldA H ?_)
      | ((fail_if_success (with_reducible refine kCall ?_)); (with_reducible refine kCons ?_); refine wpK_step (fun K hK => ?_); go_simp; refine hK _ ?_; clear hK K))
  refine wpK_step (fun K hK => ?_)
  go_simp
  apply Exists.intro
  refine ⟨fun sx => ?_, hK _ ?_⟩
  · go_at_call 86
    exact RMul_any y (some s) m2 _ Sy Ss Em2 (H.out.tbx sx)
  clear hK K
  refine wpK_step (fun K hK => ?_)
  go_simp
  apply Exists.intro
  refine ⟨fun sx => ?_, hK _ ?_⟩
  · go_at_call 19
    exact RSub_any (some m1) (some m2) u _ Sm1 Sm2 Eu (H.out.tbx sx)
  clear hK K
  repeat (first
      | ((with_reducible refine kLoad ?_); refine kldA H ?_)
      | ((fail_if_success (with_reducible refine kCall ?_)); (with_reducible refine kCons ?_); refine wpK_step (fun K hK => ?_); go_simp; refine hK _ ?_; clear hK K))
  refine wpK_step (fun K hK => ?_)
  go_simp
  apply Exists.intro
  refine ⟨fun sx => ?_, hK _ ?_⟩
  · go_at_call 86
    exact RMul_any x (some s) m3 _ Sx Ss Em3 (H.out.tbx sx)
  clear hK K
  repeat (first
      | ((with_reducible refine kLoad ?_); refine kldA H ?_)
      | ((fail_if_success (with_reducible refine kCall ?_)); (with_reducible refine kCons ?_); refine wpK_step (fun K hK => ?_); go_simp; refine hK _ ?_; clear hK K))
  refine wpK_step (fun K hK => ?_)
  go_simp
  apply Exists.intro
  refine ⟨fun sx => ?_, hK _ ?_⟩
  · go_at_call 86
    exact RMul_any y (some c) m4 _ Sy Sc Em4 (H.out.tbx sx)
  clear hK K
  refine wpK_step (fun K hK => ?_)
  go_simp
  apply Exists.intro
  refine ⟨fun sx => ?_, hK _ ?_⟩
  · go_at_call 20
    exact RAdd_any (some m3) (some m4) v _ Sm3 Sm4 Ev (H.out.tbx sx)
  clear hK K
  repeat (first
      | ((fail_if_success (with_reducible refine kCall ?_)); (with_reducible refine kCons ?_); refine wpK_step (fun K hK => ?_); go_simp; refine hK _ ?_; clear hK K))
  refine wpKeep_nil ?_
  clear H
  intro _ H
  go_wp2_with (first
      | ((with_reducible refine isStore ?_); refine stA H ?_; clear H; intro _ H))
  exact bodyPost_ret (results_H H Tryd.results73 (by (first | exact rRat | exact rSpan | exact rPose | exact rFrame | exact rVec | exact rTurn | exact rBox)) rfl (by (repeat (first | exact List.Mem.head _ | refine List.Mem.tail _ ?_ | assumption))) (by rfl)) rfl ⟨rfl, H.out.bel⟩
end Go.Proofs.YtolekonocbeekaaDoor

namespace Go.Proofs.YtolekonocbeekaaDoor
open Go.RowKit
set_option linter.unusedVariables false
set_option maxRecDepth 100000

set_option maxHeartbeats 4000000 in
theorem frameBack_any {j k : Nat} (x : Option Rat) (y : Option Rat) (r : Option Rat) (u : Rat) (v : Rat) (t : Rat) (w : World) (hk : k ≤ 1000 ∧ j ≤ 100) (Zx : Hid (SzO k x)) (Zy : Hid (SzO k y)) (Zr : Hid (SzO j r)) (Fu : Hid (rotX (-(valO r)) (((0 : Int) : Rat) - valO x) (((0 : Int) : Rat) - valO y) = u)) (Fv : Hid (rotY (-(valO r)) (((0 : Int) : Rat) - valO x) (((0 : Int) : Rat) - valO y) = v)) (Ft : Hid (-(valO r) = t)) (hT : Tb w) :
    Calls Tryd.prog 40 #[.agg #[.bool (sgO x), .string (nuO x), .string (deO x), .bool (sgO y), .string (nuO y), .string (deO y), .bool false, .bool (sgO r), .string (nuO r), .string (deO r)]] w fun e w' => e = .returned (.agg #[.bool (sgO (some u)), .string (nuO (some u)), .string (deO (some u)), .bool (sgO (some v)), .string (nuO (some v)), .string (deO (some v)), .bool false, .bool (sgO (some t)), .string (nuO (some t)), .string (deO (some t))]) ∧ Below w.heap.size w w' := by
  have H := Lib.hid (Hp.start hT)
  clear hT
  have Sx : Hid (SmO x) := SzO.sm Zx (by omega)
  have Sy : Hid (SmO y) := SzO.sm Zy (by omega)
  have Sr : Hid (SmO r) := SzO.sm Zr (by omega)
  obtain ⟨o, Eo⟩ : ∃ z : Rat, Hid (((0 : Int) : Rat) = z) := ⟨_, rfl⟩
  have Zo : Hid (Sz 3 o) := szEq Eo (Sz.int (0) (by decide))
  have So : Hid (SmO (some o)) := Sz.o Zo (by omega)
  obtain ⟨n, En⟩ : ∃ z : Rat, Hid (-(valO r) = z) := ⟨_, rfl⟩
  have Zn : Hid (Sz j n) := szEq En (Sz.neg Zr)
  have Sn : Hid (SmO (some n)) := Sz.o Zn (by omega)
  obtain ⟨p, Ep⟩ : ∃ z : Rat, Hid (o - (valO x) = z) := ⟨_, rfl⟩
  have Zp : Hid (Sz (3 + k + 1) p) := szEq Ep (Sz.sub Zo Zx)
  have Sp : Hid (SmO (some p)) := Sz.o Zp (by omega)
  obtain ⟨q, Eq⟩ : ∃ z : Rat, Hid (o - (valO y) = z) := ⟨_, rfl⟩
  have Zq : Hid (Sz (3 + k + 1) q) := szEq Eq (Sz.sub Zo Zy)
  have Sq : Hid (SmO (some q)) := Sz.o Zq (by omega)
  have Eu : Hid (rotX (valO (some n)) (valO (some p)) (valO (some q)) = u) := by have h0 := Fu.out; have h1 := Eo.out; have h2 := En.out; have h3 := Ep.out; have h4 := Eq.out; subst_vars; rfl
  have Ev : Hid (rotY (valO (some n)) (valO (some p)) (valO (some q)) = v) := by have h0 := Fv.out; have h1 := Eo.out; have h2 := En.out; have h3 := Ep.out; have h4 := Eq.out; subst_vars; rfl
  have Et : Hid (n = t) := by have h0 := Ft.out; have h1 := En.out; subst_vars; rfl
  go_enter Tryd.func40, Tryd.ntmps40
  go_wp2_with (first
      | ((with_reducible refine isLoad ?_); refine ldA H ?_)
      | ((with_reducible refine isBox ?_); refine bxA H ?_; clear H; intro _ _ H)
      | ((with_reducible refine isAlloc ?_); refine alA H ?_; clear H; intro _ _ H))
  refine (turnBack_any r n _ (by omega) Zr En H.out.tb).mono ?_
  rintro _ _ ⟨rfl, hb⟩
  replace H := Lib.hid (H.out.go hb)
  clear hb
  go_wp2_with (first
      | ((with_reducible refine isStore ?_); refine stA H ?_; clear H; intro _ H)
      | ((with_reducible refine isAlloc ?_); refine alA H ?_; clear H; intro _ _ H))
  refine wp_region_T 9 H (by kernel_rfl) (by kernel_rfl) ?_
  simp only [List.take_succ_cons, List.take_zero, List.drop_succ_cons, List.drop_zero]
  refine wpK_step (fun K hK => ?_)
  go_simp
  apply Exists.intro
  refine ⟨fun sx => ?_, hK _ ?_⟩
  · go_at_call 83
    exact frameZero_any (k := 3) o _ (by omega) Eo (H.out.tbx sx)
  clear hK K
  refine wpK_step (fun K hK => ?_)
  go_simp
  refine ⟨.agg #[.bool (sgO (some o)), .string (nuO (some o)), .string (deO (some o)), .bool (sgO (some o)), .string (nuO (some o)), .string (deO (some o))], fun sx => ?_, hK _ ?_⟩
  · have hf : (Instr.field 35 (.agg #[.bool (sgO (some o)), .string (nuO (some o)), .string (deO (some o)), .bool (sgO (some o)), .string (nuO (some o)), .string (deO (some o)), .bool false, .bool (sgO (some o)), .string (nuO (some o)), .string (deO (some o))]) 0).run Tryd.prog sx.to = .ok (.agg #[.bool (sgO (some o)), .string (nuO (some o)), .string (deO (some o)), .bool (sgO (some o)), .string (nuO (some o)), .string (deO (some o))]) sx.to := by kernel_rfl
    rw [hf]
    exact ⟨rfl, rfl⟩
  clear hK K
  repeat (first
      | ((with_reducible refine kLoad ?_); refine kldA H ?_)
      | ((fail_if_success (with_reducible refine kCall ?_)); (with_reducible refine kCons ?_); refine wpK_step (fun K hK => ?_); go_simp; refine hK _ ?_; clear hK K))
  refine wpK_step (fun K hK => ?_)
  go_simp
  apply Exists.intro
  refine ⟨fun sx => ?_, hK _ ?_⟩
  · go_at_call 82
    exact vecSub_any (some o) (some o) x y p q _ (by omega) Zo Zo Zx Zy Ep Eq (H.out.tbx sx)
  clear hK K
  repeat (first
      | ((with_reducible refine kLoad ?_); refine kldA H ?_))
  refine wpK_step (fun K hK => ?_)
  go_simp
  apply Exists.intro
  refine ⟨fun sx => ?_, hK _ ?_⟩
  · go_at_call 73
    exact vecTurn_any (some p) (some q) (some n) u v _ (by omega) Zp Zq Zn Eu Ev (H.out.tbx sx)
  clear hK K
  repeat (first
      | ((with_reducible refine kLoad ?_); refine kldA H ?_)
      | ((fail_if_success (with_reducible refine kCall ?_)); (with_reducible refine kCons ?_); refine wpK_step (fun K hK => ?_); go_simp; refine hK _ ?_; clear hK K))
  refine wpKeep_nil ?_
  clear H
  intro _ H
  go_wp2_with (first
      | ((with_reducible refine isStore ?_); refine stA H ?_; clear H; intro _ H))
  exact bodyPost_ret (results_H H Tryd.results40 (by (first | exact rRat | exact rSpan | exact rPose | exact rFrame | exact rVec | exact rTurn | exact rBox)) rfl (by (repeat (first | exact List.Mem.head _ | refine List.Mem.tail _ ?_ | assumption))) (by rfl)) rfl ⟨by rw [Et.out], H.out.bel⟩
end Go.Proofs.YtolekonocbeekaaDoor

namespace Go.Proofs.YtolekonocbeekaaDoor
open Go.RowKit
set_option linter.unusedVariables false
set_option maxRecDepth 100000

set_option maxHeartbeats 4000000 in
theorem framePut_any {i j k : Nat} (x : Option Rat) (y : Option Rat) (r : Option Rat) (a : Option Rat) (b : Option Rat) (u : Rat) (v : Rat) (w : World) (hk : i + 2 * k ≤ 7000 ∧ j ≤ 100) (Zx : Hid (SzO i x)) (Zy : Hid (SzO i y)) (Zr : Hid (SzO j r)) (Za : Hid (SzO k a)) (Zb : Hid (SzO k b)) (Fu : Hid (valO x + rotX (valO r) (valO a) (valO b) = u)) (Fv : Hid (valO y + rotY (valO r) (valO a) (valO b) = v)) (hT : Tb w) :
    Calls Tryd.prog 30 #[.agg #[.bool (sgO x), .string (nuO x), .string (deO x), .bool (sgO y), .string (nuO y), .string (deO y), .bool false, .bool (sgO r), .string (nuO r), .string (deO r)], .agg #[.bool (sgO a), .string (nuO a), .string (deO a), .bool (sgO b), .string (nuO b), .string (deO b)]] w fun e w' => e = .returned (.agg #[.bool (sgO (some u)), .string (nuO (some u)), .string (deO (some u)), .bool (sgO (some v)), .string (nuO (some v)), .string (deO (some v))]) ∧ Below w.heap.size w w' := by
  have H := Lib.hid (Hp.start hT)
  clear hT
  have Sx : Hid (SmO x) := SzO.sm Zx (by omega)
  have Sy : Hid (SmO y) := SzO.sm Zy (by omega)
  have Sr : Hid (SmO r) := SzO.sm Zr (by omega)
  have Sa : Hid (SmO a) := SzO.sm Za (by omega)
  have Sb : Hid (SmO b) := SzO.sm Zb (by omega)
  obtain ⟨m, Em⟩ : ∃ z : Rat, Hid (rotX (valO r) (valO a) (valO b) = z) := ⟨_, rfl⟩
  have Zm : Hid (Sz (2 * k + 8 * j + 17) m) := szEq Em (szrx Zr Za Zb)
  have Sm : Hid (SmO (some m)) := Sz.o Zm (by omega)
  obtain ⟨n, En⟩ : ∃ z : Rat, Hid (rotY (valO r) (valO a) (valO b) = z) := ⟨_, rfl⟩
  have Zn : Hid (Sz (2 * k + 8 * j + 17) n) := szEq En (szry Zr Za Zb)
  have Sn : Hid (SmO (some n)) := Sz.o Zn (by omega)
  have Eu : Hid ((valO x) + m = u) := by have h0 := Fu.out; have h1 := Em.out; have h2 := En.out; subst_vars; rfl
  have Zu : Hid (Sz (i + (2 * k + 8 * j + 17) + 1) u) := szEq Eu (Sz.add Zx Zm)
  have Su : Hid (SmO (some u)) := Sz.o Zu (by omega)
  have Ev : Hid ((valO y) + n = v) := by have h0 := Fv.out; have h1 := Em.out; have h2 := En.out; subst_vars; rfl
  have Zv : Hid (Sz (i + (2 * k + 8 * j + 17) + 1) v) := szEq Ev (Sz.add Zy Zn)
  have Sv : Hid (SmO (some v)) := Sz.o Zv (by omega)
  go_enter Tryd.func30, Tryd.ntmps30
  go_wp2_with (first
      | ((with_reducible refine isBox ?_); refine bxA H ?_; clear H; intro _ _ H)
      | ((with_reducible refine isAlloc ?_); refine alA H ?_; clear H; intro _ _ H))
  refine wp_region_T 7 H (by kernel_rfl) (by kernel_rfl) ?_
  simp only [List.take_succ_cons, List.take_zero, List.drop_succ_cons, List.drop_zero]
  repeat (first
      | ((with_reducible refine kLoad ?_); refine kldA H ?_)
      | ((fail_if_success (with_reducible refine kCall ?_)); (with_reducible refine kCons ?_); refine wpK_step (fun K hK => ?_); go_simp; refine hK _ ?_; clear hK K))
  refine wpK_step (fun K hK => ?_)
  go_simp
  apply Exists.intro
  refine ⟨fun sx => ?_, hK _ ?_⟩
  · go_at_call 73
    exact vecTurn_any a b r m n _ (by omega) Za Zb Zr Em En (H.out.tbx sx)
  clear hK K
  refine wpK_step (fun K hK => ?_)
  go_simp
  apply Exists.intro
  refine ⟨fun sx => ?_, hK _ ?_⟩
  · go_at_call 72
    exact vecAdd_any x y (some m) (some n) u v _ (by omega) Zx Zy Zm Zn Eu Ev (H.out.tbx sx)
  clear hK K
  refine wpKeep_nil ?_
  clear H
  intro _ H
  go_wp2_with (first
      | ((with_reducible refine isStore ?_); refine stA H ?_; clear H; intro _ H))
  exact bodyPost_ret (results_H H Tryd.results30 (by (first | exact rRat | exact rSpan | exact rPose | exact rFrame | exact rVec | exact rTurn | exact rBox)) rfl (by (repeat (first | exact List.Mem.head _ | refine List.Mem.tail _ ?_ | assumption))) (by rfl)) rfl ⟨rfl, H.out.bel⟩
end Go.Proofs.YtolekonocbeekaaDoor

namespace Go.Proofs.YtolekonocbeekaaDoor
open Go.RowKit
set_option linter.unusedVariables false
set_option maxRecDepth 100000

set_option maxHeartbeats 4000000 in
theorem frameThen_any {i j k m : Nat} (x : Option Rat) (y : Option Rat) (r : Option Rat) (a : Option Rat) (b : Option Rat) (t : Option Rat) (u v z : Rat) (w : World) (hk : i + 2 * k ≤ 7000 ∧ j ≤ 100 ∧ m ≤ 3000) (Zx : Hid (SzO i x)) (Zy : Hid (SzO i y)) (Zr : Hid (SzO j r)) (Za : Hid (SzO k a)) (Zb : Hid (SzO k b)) (Zt : Hid (SzO m t)) (Eu : Hid (valO x + rotX (valO r) (valO a) (valO b) = u)) (Ev : Hid (valO y + rotY (valO r) (valO a) (valO b) = v)) (Hd : Hid (((1 : Int) : Rat) - valO r * valO t ≠ 0)) (Ez : Hid ((valO r + valO t) / (((1 : Int) : Rat) - valO r * valO t) = z)) (hT : Tb w) :
    Calls Tryd.prog 39 #[.agg #[.bool (sgO x), .string (nuO x), .string (deO x), .bool (sgO y), .string (nuO y), .string (deO y), .bool false, .bool (sgO r), .string (nuO r), .string (deO r)], .agg #[.bool (sgO a), .string (nuO a), .string (deO a), .bool (sgO b), .string (nuO b), .string (deO b), .bool false, .bool (sgO t), .string (nuO t), .string (deO t)]] w fun e w' => e = .returned (.agg #[.bool (sgO (some u)), .string (nuO (some u)), .string (deO (some u)), .bool (sgO (some v)), .string (nuO (some v)), .string (deO (some v)), .bool false, .bool (sgO (some z)), .string (nuO (some z)), .string (deO (some z))]) ∧ Below w.heap.size w w' := by
  have H := Lib.hid (Hp.start hT)
  clear hT
  have Sx : Hid (SmO x) := SzO.sm Zx (by omega)
  have Sy : Hid (SmO y) := SzO.sm Zy (by omega)
  have Sr : Hid (SmO r) := SzO.sm Zr (by omega)
  have Sa : Hid (SmO a) := SzO.sm Za (by omega)
  have Sb : Hid (SmO b) := SzO.sm Zb (by omega)
  have St : Hid (SmO t) := SzO.sm Zt (by omega)
  go_enter Tryd.func39, Tryd.ntmps39
  go_wp2_with (first
      | ((with_reducible refine isBox ?_); refine bxA H ?_; clear H; intro _ _ H)
      | ((with_reducible refine isAlloc ?_); refine alA H ?_; clear H; intro _ _ H))
  refine wp_region_T 10 H (by kernel_rfl) (by kernel_rfl) ?_
  simp only [List.take_succ_cons, List.take_zero, List.drop_succ_cons, List.drop_zero]
  repeat (first
      | ((with_reducible refine kLoad ?_); refine kldA H ?_)
      | ((fail_if_success (with_reducible refine kCall ?_)); (with_reducible refine kCons ?_); refine wpK_step (fun K hK => ?_); go_simp; refine hK _ ?_; clear hK K))
  refine wpK_step (fun K hK => ?_)
  go_simp
  apply Exists.intro
  refine ⟨fun sx => ?_, hK _ ?_⟩
  · go_at_call 30
    exact framePut_any x y r a b u v _ (by omega) Zx Zy Zr Za Zb Eu Ev (H.out.tbx sx)
  clear hK K
  repeat (first
      | ((with_reducible refine kLoad ?_); refine kldA H ?_)
      | ((fail_if_success (with_reducible refine kCall ?_)); (with_reducible refine kCons ?_); refine wpK_step (fun K hK => ?_); go_simp; refine hK _ ?_; clear hK K))
  refine wpK_step (fun K hK => ?_)
  go_simp
  apply Exists.intro
  refine ⟨fun sx => ?_, hK _ ?_⟩
  · go_at_call 80
    exact turnThen_any r t z _ (by omega) Zr Zt Hd Ez (H.out.tbx sx)
  clear hK K
  repeat (first
      | ((fail_if_success (with_reducible refine kCall ?_)); (with_reducible refine kCons ?_); refine wpK_step (fun K hK => ?_); go_simp; refine hK _ ?_; clear hK K))
  refine wpKeep_nil ?_
  clear H
  intro _ H
  go_wp2_with (first
      | ((with_reducible refine isStore ?_); refine stA H ?_; clear H; intro _ H))
  exact bodyPost_ret (results_H H Tryd.results39 (by (first | exact rRat | exact rSpan | exact rPose | exact rFrame | exact rVec | exact rTurn | exact rBox)) rfl (by (repeat (first | exact List.Mem.head _ | refine List.Mem.tail _ ?_ | assumption))) (by rfl)) rfl ⟨rfl, H.out.bel⟩
end Go.Proofs.YtolekonocbeekaaDoor

namespace Go.Proofs.YtolekonocbeekaaDoor
open Go.RowKit
set_option linter.unusedVariables false
set_option maxRecDepth 100000

set_option maxHeartbeats 4000000 in
theorem frameThen_half {i j k m : Nat} (x : Option Rat) (y : Option Rat) (r : Option Rat) (a : Option Rat) (b : Option Rat) (t : Option Rat) (u v z : Rat) (w : World) (hk : i + 2 * k ≤ 7000 ∧ j ≤ 100 ∧ m ≤ 3000) (Zx : Hid (SzO i x)) (Zy : Hid (SzO i y)) (Zr : Hid (SzO j r)) (Za : Hid (SzO k a)) (Zb : Hid (SzO k b)) (Zt : Hid (SzO m t)) (Eu : Hid (valO x + rotX (valO r) (valO a) (valO b) = u)) (Ev : Hid (valO y + rotY (valO r) (valO a) (valO b) = v)) (Hd : Hid (((1 : Int) : Rat) - valO r * valO t = 0)) (Ez : Hid (((0 : Int) : Rat) = z)) (hT : Tb w) :
    Calls Tryd.prog 39 #[.agg #[.bool (sgO x), .string (nuO x), .string (deO x), .bool (sgO y), .string (nuO y), .string (deO y), .bool false, .bool (sgO r), .string (nuO r), .string (deO r)], .agg #[.bool (sgO a), .string (nuO a), .string (deO a), .bool (sgO b), .string (nuO b), .string (deO b), .bool false, .bool (sgO t), .string (nuO t), .string (deO t)]] w fun e w' => e = .returned (.agg #[.bool (sgO (some u)), .string (nuO (some u)), .string (deO (some u)), .bool (sgO (some v)), .string (nuO (some v)), .string (deO (some v)), .bool true, .bool (sgO (some z)), .string (nuO (some z)), .string (deO (some z))]) ∧ Below w.heap.size w w' := by
  have H := Lib.hid (Hp.start hT)
  clear hT
  have Sx : Hid (SmO x) := SzO.sm Zx (by omega)
  have Sy : Hid (SmO y) := SzO.sm Zy (by omega)
  have Sr : Hid (SmO r) := SzO.sm Zr (by omega)
  have Sa : Hid (SmO a) := SzO.sm Za (by omega)
  have Sb : Hid (SmO b) := SzO.sm Zb (by omega)
  have St : Hid (SmO t) := SzO.sm Zt (by omega)
  go_enter Tryd.func39, Tryd.ntmps39
  go_wp2_with (first
      | ((with_reducible refine isBox ?_); refine bxA H ?_; clear H; intro _ _ H)
      | ((with_reducible refine isAlloc ?_); refine alA H ?_; clear H; intro _ _ H))
  refine wp_region_T 10 H (by kernel_rfl) (by kernel_rfl) ?_
  simp only [List.take_succ_cons, List.take_zero, List.drop_succ_cons, List.drop_zero]
  repeat (first
      | ((with_reducible refine kLoad ?_); refine kldA H ?_)
      | ((fail_if_success (with_reducible refine kCall ?_)); (with_reducible refine kCons ?_); refine wpK_step (fun K hK => ?_); go_simp; refine hK _ ?_; clear hK K))
  refine wpK_step (fun K hK => ?_)
  go_simp
  apply Exists.intro
  refine ⟨fun sx => ?_, hK _ ?_⟩
  · go_at_call 30
    exact framePut_any x y r a b u v _ (by omega) Zx Zy Zr Za Zb Eu Ev (H.out.tbx sx)
  clear hK K
  repeat (first
      | ((with_reducible refine kLoad ?_); refine kldA H ?_)
      | ((fail_if_success (with_reducible refine kCall ?_)); (with_reducible refine kCons ?_); refine wpK_step (fun K hK => ?_); go_simp; refine hK _ ?_; clear hK K))
  refine wpK_step (fun K hK => ?_)
  go_simp
  apply Exists.intro
  refine ⟨fun sx => ?_, hK _ ?_⟩
  · go_at_call 80
    exact turnThen_half r t z _ (by omega) Zr Zt Hd Ez (H.out.tbx sx)
  clear hK K
  repeat (first
      | ((fail_if_success (with_reducible refine kCall ?_)); (with_reducible refine kCons ?_); refine wpK_step (fun K hK => ?_); go_simp; refine hK _ ?_; clear hK K))
  refine wpKeep_nil ?_
  clear H
  intro _ H
  go_wp2_with (first
      | ((with_reducible refine isStore ?_); refine stA H ?_; clear H; intro _ H))
  exact bodyPost_ret (results_H H Tryd.results39 (by (first | exact rRat | exact rSpan | exact rPose | exact rFrame | exact rVec | exact rTurn | exact rBox)) rfl (by (repeat (first | exact List.Mem.head _ | refine List.Mem.tail _ ?_ | assumption))) (by rfl)) rfl ⟨rfl, H.out.bel⟩
end Go.Proofs.YtolekonocbeekaaDoor

namespace Go.Proofs.YtolekonocbeekaaDoor
open Go.RowKit
set_option linter.unusedVariables false
set_option maxRecDepth 100000

theorem cmpQ_sgn {d : Rat} : (cmpQ d 0 = -1 ∧ d < 0) ∨ (cmpQ d 0 = 0 ∧ d = 0) ∨ (cmpQ d 0 = 1 ∧ 0 < d) := by
  unfold cmpQ
  by_cases h : d < 0
  · exact .inl ⟨if_pos h, h⟩
  · rw [if_neg h]
    by_cases h2 : 0 < d
    · exact .inr (.inr ⟨if_pos h2, h2⟩)
    · exact .inr (.inl ⟨if_neg h2, Rat.le_antisymm (Rat.not_lt.1 h2) (Rat.not_lt.1 h)⟩)
/-- Not wide: the denominators have the same sign. -/
theorem tWide_no {a p q : Rat} (h : tWide a p q = false) : (0 < tdQ a p ∧ 0 < tdQ a q) ∨ (tdQ a p < 0 ∧ tdQ a q < 0) := by
  have h := of_decide_eq_false h
  rcases cmpQ_sgn (d := tdQ a p) with ⟨e1, h1⟩ | ⟨e1, h1⟩ | ⟨e1, h1⟩ <;> rcases cmpQ_sgn (d := tdQ a q) with ⟨e2, h2⟩ | ⟨e2, h2⟩ | ⟨e2, h2⟩ <;> rw [e1, e2] at h <;> first | exact .inl ⟨h1, h2⟩ | exact .inr ⟨h1, h2⟩ | exact absurd (by decide) h
theorem tWide_yes {a p q : Rat} (h : (0 < tdQ a p ∧ 0 < tdQ a q) ∨ (tdQ a p < 0 ∧ tdQ a q < 0)) : tWide a p q = false := by
  refine decide_eq_false ?_
  rcases cmpQ_sgn (d := tdQ a p) with ⟨e1, h1⟩ | ⟨e1, h1⟩ | ⟨e1, h1⟩ <;> rcases cmpQ_sgn (d := tdQ a q) with ⟨e2, h2⟩ | ⟨e2, h2⟩ | ⟨e2, h2⟩ <;> rw [e1, e2] <;> first | decide | (exfalso; grind)
theorem one_eq : ((1 : Int) : Rat) = 1 := rfl
/-- Between two values the denominator has the sign of both. -/
theorem tdQ_btw {a p q t : Rat} (h : (0 < tdQ a p ∧ 0 < tdQ a q) ∨ (tdQ a p < 0 ∧ tdQ a q < 0)) (h1 : p ≤ t) (h2 : t ≤ q) : (0 < tdQ a p ∧ 0 < tdQ a t ∧ 0 < tdQ a q) ∨ (tdQ a p < 0 ∧ tdQ a t < 0 ∧ tdQ a q < 0) := by
  unfold tdQ at h ⊢
  rw [one_eq] at h ⊢
  have hp : 0 ≤ t - p := by grind
  have hq : 0 ≤ q - t := by grind
  rcases (Rat.le_total : (0 : Rat) ≤ a ∨ a ≤ 0) with ha | ha
  · have g1 := Rat.mul_nonneg ha hp
    have g2 := Rat.mul_nonneg ha hq
    grind
  · have ha : 0 ≤ -a := by grind
    have g1 := Rat.mul_nonneg ha hp
    have g2 := Rat.mul_nonneg ha hq
    grind
theorem tvQ_mul {a t : Rat} (h : tdQ a t ≠ 0) : tvQ a t * tdQ a t = t + a := Rat.div_mul_cancel h
theorem pos_of_mul {x y : Rat} (hy : 0 < y) (h : 0 ≤ x * y) : 0 ≤ x := by
  apply Rat.not_lt.1
  intro hlt
  have := Rat.mul_pos (show 0 < -x by grind) hy
  grind
theorem tvQ_le {a t u : Rat} (h : (0 < tdQ a t ∧ 0 < tdQ a u) ∨ (tdQ a t < 0 ∧ tdQ a u < 0)) (h1 : t ≤ u) : tvQ a t ≤ tvQ a u := by
  have e1 := tvQ_mul (a := a) (t := t) (by grind)
  have e2 := tvQ_mul (a := a) (t := u) (by grind)
  have hp : 0 < tdQ a t * tdQ a u := by
    rcases h with ⟨x, y⟩ | ⟨x, y⟩
    · exact Rat.mul_pos x y
    · have := Rat.mul_pos (show 0 < -tdQ a t by grind) (show 0 < -tdQ a u by grind)
      grind
  have key : (tvQ a u - tvQ a t) * (tdQ a t * tdQ a u) = (u - t) * (1 + a * a) := by
    have : (tvQ a u - tvQ a t) * (tdQ a t * tdQ a u) = (tvQ a u * tdQ a u) * tdQ a t - (tvQ a t * tdQ a t) * tdQ a u := by grind
    rw [this, e1, e2]
    unfold tdQ
    rw [one_eq]
    grind
  have h3 := Rat.mul_nonneg (show 0 ≤ u - t by grind) (show 0 ≤ 1 + a * a by have := sq_nn a; grind)
  rw [← key] at h3
  have := pos_of_mul hp h3
  grind
theorem tv_btw {a p q t : Rat} (h : tWide a p q = false) (h1 : p ≤ t) (h2 : t ≤ q) : tdQ a t ≠ 0 ∧ tvQ a p ≤ tvQ a t ∧ tvQ a t ≤ tvQ a q := by
  have hb := tdQ_btw (tWide_no h) h1 h2
  exact ⟨by grind, tvQ_le (by grind) h1, tvQ_le (by grind) h2⟩
theorem Spn.tv {j k : Nat} {a b : Option Rat} {p q r : Rat} (A : Spn k a b p q) (zr : Sz j r) (h : tWide r p q = false) (hk : 2 * (j + k) + 5 ≤ 10000) : Spn (2 * (j + k) + 5) (some (tvQ r p)) (some (tvQ r q)) (tvQ r p) (tvQ r q) := by
  have h1 := tv_btw h Rat.le_refl A.le
  have h2 := tv_btw h A.le Rat.le_refl
  exact Spn.two (tvQ_sz zr A.zp h1.1) (tvQ_sz zr A.zq h2.1) h1.2.2 hk
theorem Spn.rx {j k : Nat} {a b c d : Option Rat} {p q r s o : Rat} (A : Spn k a b p q) (B : Spn k c d r s) (zo : Sz j o) (hk : 2 * k + 8 * j + 17 ≤ 10000) : Spn (2 * k + 8 * j + 17) (some (rtXL o p q r s)) (some (rtXH o p q r s)) (rtXL o p q r s) (rtXH o p q r s) :=
  (Spn.sub (Spn.mul (Spn.of zo.cosQ (by omega)) A rfl rfl (by omega)) (Spn.mul (Spn.of zo.sinQ (by omega)) B rfl rfl (by omega)) rfl rfl (by omega)).mono (by omega)
theorem Spn.ry {j k : Nat} {a b c d : Option Rat} {p q r s o : Rat} (A : Spn k a b p q) (B : Spn k c d r s) (zo : Sz j o) (hk : 2 * k + 8 * j + 17 ≤ 10000) : Spn (2 * k + 8 * j + 17) (some (rtYL o p q r s)) (some (rtYH o p q r s)) (rtYL o p q r s) (rtYH o p q r s) :=
  (Spn.add (Spn.mul (Spn.of zo.sinQ (by omega)) A rfl rfl (by omega)) (Spn.mul (Spn.of zo.cosQ (by omega)) B rfl rfl (by omega)) rfl rfl (by omega)).mono (by omega)
end Go.Proofs.YtolekonocbeekaaDoor

namespace Go.Proofs.YtolekonocbeekaaDoor
open Go.RowKit
set_option linter.unusedVariables false
set_option maxRecDepth 100000

set_option maxHeartbeats 4000000 in
theorem Grasp_ok {i j k : Nat} (a1 b1 : Option Rat) (p1 q1 : Rat) (a2 b2 : Option Rat) (p2 q2 : Rat) (a3 b3 : Option Rat) (p3 q3 : Rat) (x : Option Rat) (y : Option Rat) (r : Option Rat) (tl : Rat) (th : Rat) (xl : Rat) (xh : Rat) (yl : Rat) (yh : Rat) (w : World) (hk : i + 8 * k + 2 * j ≤ 5000 ∧ k ≤ 300 ∧ j ≤ 100) (A1 : Hid (Spn i a1 b1 p1 q1)) (A2 : Hid (Spn i a2 b2 p2 q2)) (A3 : Hid (Spn k a3 b3 p3 q3)) (Zx : Hid (SzO j x)) (Zy : Hid (SzO j y)) (Zr : Hid (SzO j r)) (G : Hid (tWide (valO r) p3 q3 = false)) (Ftl : Hid (tvQ (valO r) p3 = tl)) (Fth : Hid (tvQ (valO r) q3 = th)) (Fxl : Hid (ptXL p1 p3 q3 (valO x) (valO y) = xl)) (Fxh : Hid (ptXH q1 p3 q3 (valO x) (valO y) = xh)) (Fyl : Hid (ptYL p2 p3 q3 (valO x) (valO y) = yl)) (Fyh : Hid (ptYH q2 p3 q3 (valO x) (valO y) = yh)) (hT : Tb w) :
    Calls Tryd.prog 42 #[.agg #[.bool (sgO a1), .string (nuO a1), .string (deO a1), .bool (sgO b1), .string (nuO b1), .string (deO b1), .bool (sgO a2), .string (nuO a2), .string (deO a2), .bool (sgO b2), .string (nuO b2), .string (deO b2), .bool (sgO a3), .string (nuO a3), .string (deO a3), .bool (sgO b3), .string (nuO b3), .string (deO b3)], .agg #[.bool (sgO x), .string (nuO x), .string (deO x), .bool (sgO y), .string (nuO y), .string (deO y), .bool false, .bool (sgO r), .string (nuO r), .string (deO r)]] w fun e w' => e = .returned (.tuple #[.agg #[.bool (sgO (some xl)), .string (nuO (some xl)), .string (deO (some xl)), .bool (sgO (some xh)), .string (nuO (some xh)), .string (deO (some xh)), .bool (sgO (some yl)), .string (nuO (some yl)), .string (deO (some yl)), .bool (sgO (some yh)), .string (nuO (some yh)), .string (deO (some yh)), .bool (sgO (some tl)), .string (nuO (some tl)), .string (deO (some tl)), .bool (sgO (some th)), .string (nuO (some th)), .string (deO (some th))], .int .i64 0]) ∧ Below w.heap.size w w' := by
  have H := Lib.hid (Hp.start hT)
  clear hT
  have Zp1 : Hid (Sz i p1) := A1.out.zp
  have Sp1 : Hid (SmO (some p1)) := Sz.o Zp1 (by omega)
  have Zq1 : Hid (Sz i q1) := A1.out.zq
  have Sq1 : Hid (SmO (some q1)) := Sz.o Zq1 (by omega)
  have Zp2 : Hid (Sz i p2) := A2.out.zp
  have Sp2 : Hid (SmO (some p2)) := Sz.o Zp2 (by omega)
  have Zq2 : Hid (Sz i q2) := A2.out.zq
  have Sq2 : Hid (SmO (some q2)) := Sz.o Zq2 (by omega)
  have Zp3 : Hid (Sz k p3) := A3.out.zp
  have Sp3 : Hid (SmO (some p3)) := Sz.o Zp3 (by omega)
  have Zq3 : Hid (Sz k q3) := A3.out.zq
  have Sq3 : Hid (SmO (some q3)) := Sz.o Zq3 (by omega)
  have Sx : Hid (SmO x) := SzO.sm Zx (by omega)
  have Sy : Hid (SmO y) := SzO.sm Zy (by omega)
  have Sr : Hid (SmO r) := SzO.sm Zr (by omega)
  have Etl : Hid (tvQ (valO r) p3 = tl) := by have h0 := Ftl.out; subst_vars; rfl
  have Eth : Hid (tvQ (valO r) q3 = th) := by have h0 := Fth.out; subst_vars; rfl
  have Exl : Hid (ptXL p1 p3 q3 (valO x) (valO y) = xl) := by have h0 := Fxl.out; subst_vars; rfl
  have Exh : Hid (ptXH q1 p3 q3 (valO x) (valO y) = xh) := by have h0 := Fxh.out; subst_vars; rfl
  have Eyl : Hid (ptYL p2 p3 q3 (valO x) (valO y) = yl) := by have h0 := Fyl.out; subst_vars; rfl
  have Eyh : Hid (ptYH q2 p3 q3 (valO x) (valO y) = yh) := by have h0 := Fyh.out; subst_vars; rfl
  go_enter Tryd.func42, Tryd.ntmps42
  go_wp2_with (first
      | ((with_reducible refine isLoad ?_); refine ldA H ?_)
      | ((with_reducible refine isLoad ?_); refine ld1A H ?_)
      | ((with_reducible refine isBox ?_); refine bxA H ?_; clear H; intro _ _ H)
      | ((with_reducible refine isAlloc ?_); refine alA H ?_; clear H; intro _ _ H))
  refine (turned_ok a3 b3 p3 q3 r tl th _ (by omega) A3 Zr G Etl Eth H.out.tb).mono ?_
  rintro _ _ ⟨rfl, hb⟩
  replace H := Lib.hid (H.out.go hb)
  clear hb
  go_wp2_with (first
      | ((with_reducible refine isLoad ?_); refine ldA H ?_)
      | ((with_reducible refine isStore ?_); refine stA H ?_; clear H; intro _ H)
      | ((with_reducible refine isAlloc ?_); refine alA H ?_; clear H; intro _ _ H))
  refine (Point_any (i := i) (j := k) (k := j) a1 b1 p1 q1 a2 b2 p2 q2 a3 b3 p3 q3 x y xl xh yl yh _ (by omega) A1 A2 A3 Zx Zy Exl Exh Eyl Eyh H.out.tb).mono ?_
  rintro _ _ ⟨rfl, hb⟩
  replace H := Lib.hid (H.out.go hb)
  clear hb
  go_wp2_with (first
      | ((with_reducible refine isLoad ?_); refine ldA H ?_)
      | ((with_reducible refine isStore ?_); refine stA H ?_; clear H; intro _ H)
      | ((with_reducible refine isAlloc ?_); refine alA H ?_; clear H; intro _ _ H))
  exact bodyPost_ret (results_Hv H Tryd.results42 (by (first | exact rRat | exact rSpan | exact rPose | exact rFrame | exact rVec | exact rTurn | exact rBox)) rfl (by (repeat (first | exact List.Mem.head _ | refine List.Mem.tail _ ?_ | assumption))) (by rfl) (by rfl)) rfl ⟨rfl, H.out.bel⟩

set_option maxHeartbeats 4000000 in
theorem Grasp_wide {i j k : Nat} (a1 b1 : Option Rat) (p1 q1 : Rat) (a2 b2 : Option Rat) (p2 q2 : Rat) (a3 b3 : Option Rat) (p3 q3 : Rat) (x : Option Rat) (y : Option Rat) (r : Option Rat) (w : World) (hk : i + 8 * k + 2 * j ≤ 5000 ∧ k ≤ 300 ∧ j ≤ 100) (A1 : Hid (Spn i a1 b1 p1 q1)) (A2 : Hid (Spn i a2 b2 p2 q2)) (A3 : Hid (Spn k a3 b3 p3 q3)) (Zx : Hid (SzO j x)) (Zy : Hid (SzO j y)) (Zr : Hid (SzO j r)) (G : Hid (tWide (valO r) p3 q3 = true)) (hT : Tb w) :
    Calls Tryd.prog 42 #[.agg #[.bool (sgO a1), .string (nuO a1), .string (deO a1), .bool (sgO b1), .string (nuO b1), .string (deO b1), .bool (sgO a2), .string (nuO a2), .string (deO a2), .bool (sgO b2), .string (nuO b2), .string (deO b2), .bool (sgO a3), .string (nuO a3), .string (deO a3), .bool (sgO b3), .string (nuO b3), .string (deO b3)], .agg #[.bool (sgO x), .string (nuO x), .string (deO x), .bool (sgO y), .string (nuO y), .string (deO y), .bool false, .bool (sgO r), .string (nuO r), .string (deO r)]] w fun e w' => e = .returned (.tuple #[.agg #[.bool false, .string ⟨#[]⟩, .string ⟨#[]⟩, .bool false, .string ⟨#[]⟩, .string ⟨#[]⟩, .bool false, .string ⟨#[]⟩, .string ⟨#[]⟩, .bool false, .string ⟨#[]⟩, .string ⟨#[]⟩, .bool false, .string ⟨#[]⟩, .string ⟨#[]⟩, .bool false, .string ⟨#[]⟩, .string ⟨#[]⟩], .int .i64 18]) ∧ Below w.heap.size w w' := by
  have H := Lib.hid (Hp.start hT)
  clear hT
  have Zp1 : Hid (Sz i p1) := A1.out.zp
  have Sp1 : Hid (SmO (some p1)) := Sz.o Zp1 (by omega)
  have Zq1 : Hid (Sz i q1) := A1.out.zq
  have Sq1 : Hid (SmO (some q1)) := Sz.o Zq1 (by omega)
  have Zp2 : Hid (Sz i p2) := A2.out.zp
  have Sp2 : Hid (SmO (some p2)) := Sz.o Zp2 (by omega)
  have Zq2 : Hid (Sz i q2) := A2.out.zq
  have Sq2 : Hid (SmO (some q2)) := Sz.o Zq2 (by omega)
  have Zp3 : Hid (Sz k p3) := A3.out.zp
  have Sp3 : Hid (SmO (some p3)) := Sz.o Zp3 (by omega)
  have Zq3 : Hid (Sz k q3) := A3.out.zq
  have Sq3 : Hid (SmO (some q3)) := Sz.o Zq3 (by omega)
  have Sx : Hid (SmO x) := SzO.sm Zx (by omega)
  have Sy : Hid (SmO y) := SzO.sm Zy (by omega)
  have Sr : Hid (SmO r) := SzO.sm Zr (by omega)
  go_enter Tryd.func42, Tryd.ntmps42
  go_wp2_with (first
      | ((with_reducible refine isLoad ?_); refine ldA H ?_)
      | ((with_reducible refine isLoad ?_); refine ld1A H ?_)
      | ((with_reducible refine isBox ?_); refine bxA H ?_; clear H; intro _ _ H)
      | ((with_reducible refine isAlloc ?_); refine alA H ?_; clear H; intro _ _ H))
  refine (turned_wide a3 b3 p3 q3 r _ (by omega) A3 Zr G H.out.tb).mono ?_
  rintro _ _ ⟨rfl, hb⟩
  replace H := Lib.hid (H.out.go hb)
  clear hb
  go_wp2_with (first
      | ((with_reducible refine isStore ?_); refine stA H ?_; clear H; intro _ H)
      | ((with_reducible refine isAlloc ?_); refine alA H ?_; clear H; intro _ _ H))
  exact bodyPost_ret (results_Hv H Tryd.results42 (by (first | exact rRat | exact rSpan | exact rPose | exact rFrame | exact rVec | exact rTurn | exact rBox)) rfl (by (repeat (first | exact List.Mem.head _ | refine List.Mem.tail _ ?_ | assumption))) (by rfl) (by rfl)) rfl ⟨rfl, H.out.bel⟩
end Go.Proofs.YtolekonocbeekaaDoor

namespace Go.Proofs.YtolekonocbeekaaDoor
open Go.RowKit
set_option linter.unusedVariables false
set_option maxRecDepth 100000

set_option maxHeartbeats 4000000 in
theorem Put_ok {i j k : Nat} (a1 b1 : Option Rat) (p1 q1 : Rat) (a2 b2 : Option Rat) (p2 q2 : Rat) (a3 b3 : Option Rat) (p3 q3 : Rat) (x : Option Rat) (y : Option Rat) (r : Option Rat) (tl : Rat) (th : Rat) (xl : Rat) (xh : Rat) (yl : Rat) (yh : Rat) (w : World) (hk : i ≤ 2300 ∧ k ≤ 3000 ∧ j ≤ 100) (A1 : Hid (Spn i a1 b1 p1 q1)) (A2 : Hid (Spn i a2 b2 p2 q2)) (A3 : Hid (Spn k a3 b3 p3 q3)) (Zx : Hid (SzO j x)) (Zy : Hid (SzO j y)) (Zr : Hid (SzO j r)) (G : Hid (tWide (valO r) p3 q3 = false)) (Ftl : Hid (tvQ (valO r) p3 = tl)) (Fth : Hid (tvQ (valO r) q3 = th)) (Fxl : Hid (rtXL (valO r) p1 q1 p2 q2 + valO x = xl)) (Fxh : Hid (rtXH (valO r) p1 q1 p2 q2 + valO x = xh)) (Fyl : Hid (rtYL (valO r) p1 q1 p2 q2 + valO y = yl)) (Fyh : Hid (rtYH (valO r) p1 q1 p2 q2 + valO y = yh)) (hT : Tb w) :
    Calls Tryd.prog 74 #[.agg #[.bool (sgO a1), .string (nuO a1), .string (deO a1), .bool (sgO b1), .string (nuO b1), .string (deO b1), .bool (sgO a2), .string (nuO a2), .string (deO a2), .bool (sgO b2), .string (nuO b2), .string (deO b2), .bool (sgO a3), .string (nuO a3), .string (deO a3), .bool (sgO b3), .string (nuO b3), .string (deO b3)], .agg #[.bool (sgO x), .string (nuO x), .string (deO x), .bool (sgO y), .string (nuO y), .string (deO y), .bool false, .bool (sgO r), .string (nuO r), .string (deO r)]] w fun e w' => e = .returned (.tuple #[.agg #[.bool (sgO (some xl)), .string (nuO (some xl)), .string (deO (some xl)), .bool (sgO (some xh)), .string (nuO (some xh)), .string (deO (some xh)), .bool (sgO (some yl)), .string (nuO (some yl)), .string (deO (some yl)), .bool (sgO (some yh)), .string (nuO (some yh)), .string (deO (some yh)), .bool (sgO (some tl)), .string (nuO (some tl)), .string (deO (some tl)), .bool (sgO (some th)), .string (nuO (some th)), .string (deO (some th))], .int .i64 0]) ∧ Below w.heap.size w w' := by
  have H := Lib.hid (Hp.start hT)
  clear hT
  have Zp1 : Hid (Sz i p1) := A1.out.zp
  have Sp1 : Hid (SmO (some p1)) := Sz.o Zp1 (by omega)
  have Zq1 : Hid (Sz i q1) := A1.out.zq
  have Sq1 : Hid (SmO (some q1)) := Sz.o Zq1 (by omega)
  have Zp2 : Hid (Sz i p2) := A2.out.zp
  have Sp2 : Hid (SmO (some p2)) := Sz.o Zp2 (by omega)
  have Zq2 : Hid (Sz i q2) := A2.out.zq
  have Sq2 : Hid (SmO (some q2)) := Sz.o Zq2 (by omega)
  have Zp3 : Hid (Sz k p3) := A3.out.zp
  have Sp3 : Hid (SmO (some p3)) := Sz.o Zp3 (by omega)
  have Zq3 : Hid (Sz k q3) := A3.out.zq
  have Sq3 : Hid (SmO (some q3)) := Sz.o Zq3 (by omega)
  have Sx : Hid (SmO x) := SzO.sm Zx (by omega)
  have Sy : Hid (SmO y) := SzO.sm Zy (by omega)
  have Sr : Hid (SmO r) := SzO.sm Zr (by omega)
  have Etl : Hid (tvQ (valO r) p3 = tl) := by have h0 := Ftl.out; subst_vars; rfl
  have Eth : Hid (tvQ (valO r) q3 = th) := by have h0 := Fth.out; subst_vars; rfl
  obtain ⟨rl, Erl⟩ : ∃ z : Rat, Hid (rtXL (valO r) p1 q1 p2 q2 = z) := ⟨_, rfl⟩
  obtain ⟨rh, Erh⟩ : ∃ z : Rat, Hid (rtXH (valO r) p1 q1 p2 q2 = z) := ⟨_, rfl⟩
  obtain ⟨sl, Esl⟩ : ∃ z : Rat, Hid (rtYL (valO r) p1 q1 p2 q2 = z) := ⟨_, rfl⟩
  obtain ⟨sh, Esh⟩ : ∃ z : Rat, Hid (rtYH (valO r) p1 q1 p2 q2 = z) := ⟨_, rfl⟩
  have RX : Hid (Spn (2 * i + 8 * j + 17) (some rl) (some rh) rl rh) := by have h1 := Erl.out; have h2 := Erh.out; rw [← h1, ← h2]; exact Spn.rx A1.out A2.out Zr (by omega)
  have RY : Hid (Spn (2 * i + 8 * j + 17) (some sl) (some sh) sl sh) := by have h1 := Esl.out; have h2 := Esh.out; rw [← h1, ← h2]; exact Spn.ry A1.out A2.out Zr (by omega)
  obtain ⟨vx, Evx⟩ : ∃ z : Rat, Hid (valO x = z) := ⟨_, rfl⟩
  have Zvx : Hid (Sz j vx) := szEq Evx (Zx)
  have Svx : Hid (SmO (some vx)) := Sz.o Zvx (by omega)
  have X : Hid (Spn j (some vx) (some vx) vx vx) := Spn.of Zvx (by omega)
  have Exl : Hid (rl + vx = xl) := by have h0 := Fxl.out; have h1 := Erl.out; have h2 := Erh.out; have h3 := Esl.out; have h4 := Esh.out; have h5 := Evx.out; subst_vars; rfl
  have Exh : Hid (rh + vx = xh) := by have h0 := Fxh.out; have h1 := Erl.out; have h2 := Erh.out; have h3 := Esl.out; have h4 := Esh.out; have h5 := Evx.out; subst_vars; rfl
  obtain ⟨vy, Evy⟩ : ∃ z : Rat, Hid (valO y = z) := ⟨_, rfl⟩
  have Zvy : Hid (Sz j vy) := szEq Evy (Zy)
  have Svy : Hid (SmO (some vy)) := Sz.o Zvy (by omega)
  have Y : Hid (Spn j (some vy) (some vy) vy vy) := Spn.of Zvy (by omega)
  have Eyl : Hid (sl + vy = yl) := by have h0 := Fyl.out; have h1 := Erl.out; have h2 := Erh.out; have h3 := Esl.out; have h4 := Esh.out; have h5 := Evx.out; have h6 := Evy.out; subst_vars; rfl
  have Eyh : Hid (sh + vy = yh) := by have h0 := Fyh.out; have h1 := Erl.out; have h2 := Erh.out; have h3 := Esl.out; have h4 := Esh.out; have h5 := Evx.out; have h6 := Evy.out; subst_vars; rfl
  go_enter Tryd.func74, Tryd.ntmps74
  go_wp2_with (first
      | ((with_reducible refine isLoad ?_); refine ldA H ?_)
      | ((with_reducible refine isLoad ?_); refine ld1A H ?_)
      | ((with_reducible refine isBox ?_); refine bxA H ?_; clear H; intro _ _ H)
      | ((with_reducible refine isAlloc ?_); refine alA H ?_; clear H; intro _ _ H))
  refine (turned_ok a3 b3 p3 q3 r tl th _ (by omega) A3 Zr G Etl Eth H.out.tb).mono ?_
  rintro _ _ ⟨rfl, hb⟩
  replace H := Lib.hid (H.out.go hb)
  clear hb
  go_wp2_with (first
      | ((with_reducible refine isLoad ?_); refine ldA H ?_)
      | ((with_reducible refine isStore ?_); refine stA H ?_; clear H; intro _ H)
      | ((with_reducible refine isAlloc ?_); refine alA H ?_; clear H; intro _ _ H))
  refine (rotate_any a1 b1 p1 q1 a2 b2 p2 q2 r rl rh sl sh _ (by omega) A1 A2 Zr Erl Erh Esl Esh H.out.tb).mono ?_
  rintro _ _ ⟨rfl, hb⟩
  replace H := Lib.hid (H.out.go hb)
  clear hb
  go_wp2_with (first
      | ((with_reducible refine isStore ?_); refine stA H ?_; clear H; intro _ H)
      | ((with_reducible refine isAlloc ?_); refine alA H ?_; clear H; intro _ _ H))
  refine wp_region_U 14 15 [.s] H (by kernel_rfl) (by kernel_rfl) (by kernel_rfl) (by decide) ?_
  simp only [List.take_succ_cons, List.take_zero, List.drop_succ_cons, List.drop_zero]
  repeat (first
      | ((with_reducible refine kLoad ?_); refine kldA H ?_)
      | ((fail_if_success (with_reducible refine kCall ?_)); (with_reducible refine kCons ?_); refine wpK_step (fun K hK => ?_); go_simp; refine hK _ ?_; clear hK K))
  refine wpK_step (fun K hK => ?_)
  go_simp
  apply Exists.intro
  refine ⟨fun sx => ?_, hK _ ?_⟩
  · go_at_call 68
    exact spanOf_any x vx _ Sx Evx (H.out.tbx sx)
  clear hK K
  refine wpK_step (fun K hK => ?_)
  go_simp
  apply Exists.intro
  refine ⟨fun sx => ?_, hK _ ?_⟩
  · go_at_call 69
    exact spanAdd_any (some rl) (some rh) rl rh (some vx) (some vx) vx vx xl xh _ (by omega) RX X Exl Exh (H.out.tbx sx)
  clear hK K
  repeat (first
      | ((with_reducible refine kLoad ?_); refine kldA H ?_)
      | ((fail_if_success (with_reducible refine kCall ?_)); (with_reducible refine kCons ?_); refine wpK_step (fun K hK => ?_); go_simp; refine hK _ ?_; clear hK K))
  refine wpK_step (fun K hK => ?_)
  go_simp
  apply Exists.intro
  refine ⟨fun sx => ?_, hK _ ?_⟩
  · go_at_call 68
    exact spanOf_any y vy _ Sy Evy (H.out.tbx sx)
  clear hK K
  refine wpK_step (fun K hK => ?_)
  go_simp
  apply Exists.intro
  refine ⟨fun sx => ?_, hK _ ?_⟩
  · go_at_call 69
    exact spanAdd_any (some sl) (some sh) sl sh (some vy) (some vy) vy vy yl yh _ (by omega) RY Y Eyl Eyh (H.out.tbx sx)
  clear hK K
  repeat (first
      | ((with_reducible refine kLoad ?_); refine kldA H ?_)
      | ((fail_if_success (with_reducible refine kCall ?_)); (with_reducible refine kCons ?_); refine wpK_step (fun K hK => ?_); go_simp; refine hK _ ?_; clear hK K))
  refine wpKeep_nil ?_
  refine wpL_S (by rfl) rfl rfl rfl (by (first | exact rRat | exact rSpan | exact rPose | exact rFrame | exact rVec | exact rTurn | exact rBox)) (by rfl) (by rfl) (by (repeat (first | apply Upd.head | apply Upd.tail | assumption))) (by rfl) (by (simp only [List.drop, List.take, List.nil_append, List.cons_append]); rfl) (by exact Nat.le_of_ble_eq_true rfl) (by rfl) ?_
  refine wpL_nil ?_
  clear H
  intro _ H
  go_wp2_with (first
      | go_skip)
  exact bodyPost_ret (results_Hv H Tryd.results74 (by (first | exact rRat | exact rSpan | exact rPose | exact rFrame | exact rVec | exact rTurn | exact rBox)) rfl (by (repeat (first | exact List.Mem.head _ | refine List.Mem.tail _ ?_ | assumption))) (by rfl) (by rfl)) rfl ⟨rfl, H.out.bel⟩

set_option maxHeartbeats 4000000 in
theorem Put_wide {i j k : Nat} (a1 b1 : Option Rat) (p1 q1 : Rat) (a2 b2 : Option Rat) (p2 q2 : Rat) (a3 b3 : Option Rat) (p3 q3 : Rat) (x : Option Rat) (y : Option Rat) (r : Option Rat) (w : World) (hk : i ≤ 2300 ∧ k ≤ 3000 ∧ j ≤ 100) (A1 : Hid (Spn i a1 b1 p1 q1)) (A2 : Hid (Spn i a2 b2 p2 q2)) (A3 : Hid (Spn k a3 b3 p3 q3)) (Zx : Hid (SzO j x)) (Zy : Hid (SzO j y)) (Zr : Hid (SzO j r)) (G : Hid (tWide (valO r) p3 q3 = true)) (hT : Tb w) :
    Calls Tryd.prog 74 #[.agg #[.bool (sgO a1), .string (nuO a1), .string (deO a1), .bool (sgO b1), .string (nuO b1), .string (deO b1), .bool (sgO a2), .string (nuO a2), .string (deO a2), .bool (sgO b2), .string (nuO b2), .string (deO b2), .bool (sgO a3), .string (nuO a3), .string (deO a3), .bool (sgO b3), .string (nuO b3), .string (deO b3)], .agg #[.bool (sgO x), .string (nuO x), .string (deO x), .bool (sgO y), .string (nuO y), .string (deO y), .bool false, .bool (sgO r), .string (nuO r), .string (deO r)]] w fun e w' => e = .returned (.tuple #[.agg #[.bool false, .string ⟨#[]⟩, .string ⟨#[]⟩, .bool false, .string ⟨#[]⟩, .string ⟨#[]⟩, .bool false, .string ⟨#[]⟩, .string ⟨#[]⟩, .bool false, .string ⟨#[]⟩, .string ⟨#[]⟩, .bool false, .string ⟨#[]⟩, .string ⟨#[]⟩, .bool false, .string ⟨#[]⟩, .string ⟨#[]⟩], .int .i64 18]) ∧ Below w.heap.size w w' := by
  have H := Lib.hid (Hp.start hT)
  clear hT
  have Zp1 : Hid (Sz i p1) := A1.out.zp
  have Sp1 : Hid (SmO (some p1)) := Sz.o Zp1 (by omega)
  have Zq1 : Hid (Sz i q1) := A1.out.zq
  have Sq1 : Hid (SmO (some q1)) := Sz.o Zq1 (by omega)
  have Zp2 : Hid (Sz i p2) := A2.out.zp
  have Sp2 : Hid (SmO (some p2)) := Sz.o Zp2 (by omega)
  have Zq2 : Hid (Sz i q2) := A2.out.zq
  have Sq2 : Hid (SmO (some q2)) := Sz.o Zq2 (by omega)
  have Zp3 : Hid (Sz k p3) := A3.out.zp
  have Sp3 : Hid (SmO (some p3)) := Sz.o Zp3 (by omega)
  have Zq3 : Hid (Sz k q3) := A3.out.zq
  have Sq3 : Hid (SmO (some q3)) := Sz.o Zq3 (by omega)
  have Sx : Hid (SmO x) := SzO.sm Zx (by omega)
  have Sy : Hid (SmO y) := SzO.sm Zy (by omega)
  have Sr : Hid (SmO r) := SzO.sm Zr (by omega)
  go_enter Tryd.func74, Tryd.ntmps74
  go_wp2_with (first
      | ((with_reducible refine isLoad ?_); refine ldA H ?_)
      | ((with_reducible refine isLoad ?_); refine ld1A H ?_)
      | ((with_reducible refine isBox ?_); refine bxA H ?_; clear H; intro _ _ H)
      | ((with_reducible refine isAlloc ?_); refine alA H ?_; clear H; intro _ _ H))
  refine (turned_wide a3 b3 p3 q3 r _ (by omega) A3 Zr G H.out.tb).mono ?_
  rintro _ _ ⟨rfl, hb⟩
  replace H := Lib.hid (H.out.go hb)
  clear hb
  go_wp2_with (first
      | ((with_reducible refine isStore ?_); refine stA H ?_; clear H; intro _ H)
      | ((with_reducible refine isAlloc ?_); refine alA H ?_; clear H; intro _ _ H))
  exact bodyPost_ret (results_Hv H Tryd.results74 (by (first | exact rRat | exact rSpan | exact rPose | exact rFrame | exact rVec | exact rTurn | exact rBox)) rfl (by (repeat (first | exact List.Mem.head _ | refine List.Mem.tail _ ?_ | assumption))) (by rfl) (by rfl)) rfl ⟨rfl, H.out.bel⟩
end Go.Proofs.YtolekonocbeekaaDoor

namespace Go.Proofs.YtolekonocbeekaaDoor
open Go.RowKit
set_option linter.unusedVariables false
set_option maxRecDepth 100000

structure Ps where
  a1 : Rat
  b1 : Rat
  a2 : Rat
  b2 : Rat
  a3 : Rat
  b3 : Rat
structure Fr where
  x : Rat
  y : Rat
  t : Rat
def gripP (g : Fr) (p : Ps) : Ps := ⟨rtXL (-g.t) (p.a1 - g.x) (p.b1 - g.x) (p.a2 - g.y) (p.b2 - g.y), rtXH (-g.t) (p.a1 - g.x) (p.b1 - g.x) (p.a2 - g.y) (p.b2 - g.y), rtYL (-g.t) (p.a1 - g.x) (p.b1 - g.x) (p.a2 - g.y) (p.b2 - g.y), rtYH (-g.t) (p.a1 - g.x) (p.b1 - g.x) (p.a2 - g.y) (p.b2 - g.y), tvQ (-g.t) p.a3, tvQ (-g.t) p.b3⟩
def putP (g : Fr) (p : Ps) : Ps := ⟨rtXL g.t p.a1 p.b1 p.a2 p.b2 + g.x, rtXH g.t p.a1 p.b1 p.a2 p.b2 + g.x, rtYL g.t p.a1 p.b1 p.a2 p.b2 + g.y, rtYH g.t p.a1 p.b1 p.a2 p.b2 + g.y, tvQ g.t p.a3, tvQ g.t p.b3⟩
def widP (b s : Rat) (p : Ps) : Ps := ⟨p.a1 - b, p.b1 + b, p.a2 - b, p.b2 + b, p.a3 - s, p.b3 + s⟩
/-- Good bounds, positions of the one size, turns of the other. -/
structure Pok (i k : Nat) (p : Ps) : Prop where
  s1 : Spn i (some p.a1) (some p.b1) p.a1 p.b1
  s2 : Spn i (some p.a2) (some p.b2) p.a2 p.b2
  s3 : Spn k (some p.a3) (some p.b3) p.a3 p.b3
structure Fok (j : Nat) (g : Fr) : Prop where
  x : Sz j g.x
  y : Sz j g.y
  t : Sz j g.t
theorem Pok.grip {i j k : Nat} {p : Ps} {g : Fr} (h : Pok i k p) (f : Fok j g) (G : tWide (-g.t) p.a3 p.b3 = false) (h1 : 2 * (i + j + 1) + 8 * j + 17 ≤ 10000) (h2 : 2 * (j + k) + 5 ≤ 10000) : Pok (2 * (i + j + 1) + 8 * j + 17) (2 * (j + k) + 5) (gripP g p) :=
  have a := Spn.sub h.s1 (Spn.of f.x (by omega)) rfl rfl (by omega)
  have b := Spn.sub h.s2 (Spn.of f.y (by omega)) rfl rfl (by omega)
  ⟨Spn.rx a b f.t.neg (by omega), Spn.ry a b f.t.neg (by omega), Spn.tv h.s3 f.t.neg G (by omega)⟩
theorem Pok.put {i j k : Nat} {p : Ps} {g : Fr} (h : Pok i k p) (f : Fok j g) (G : tWide g.t p.a3 p.b3 = false) (h1 : 2 * i + 9 * j + 18 ≤ 10000) (h2 : 2 * (j + k) + 5 ≤ 10000) : Pok (2 * i + 9 * j + 18) (2 * (j + k) + 5) (putP g p) :=
  ⟨(Spn.add (Spn.rx h.s1 h.s2 f.t (by omega)) (Spn.of f.x (by omega)) rfl rfl (by omega)).mono (by omega), (Spn.add (Spn.ry h.s1 h.s2 f.t (by omega)) (Spn.of f.y (by omega)) rfl rfl (by omega)).mono (by omega), Spn.tv h.s3 f.t G (by omega)⟩
theorem Spn.wide {j k : Nat} {a b : Option Rat} {p q r : Rat} (A : Spn k a b p q) (zr : Sz j r) (h : 0 ≤ r) (hk : k + j + 1 ≤ 10000) : Spn (k + j + 1) (some (p - r)) (some (q + r)) (p - r) (q + r) := by
  have := A.le
  exact Spn.two (A.zp.sub zr) (A.zq.add zr) (by grind) hk
theorem Pok.wid {i j k : Nat} {p : Ps} {b s : Rat} (h : Pok i k p) (zb : Sz j b) (zs : Sz j s) (hb : 0 ≤ b) (hs : 0 ≤ s) (h1 : i + j + 1 ≤ 10000) (h2 : k + j + 1 ≤ 10000) : Pok (i + j + 1) (k + j + 1) (widP b s p) := ⟨h.s1.wide zb hb h1, h.s2.wide zb hb h1, h.s3.wide zs hs h2⟩
theorem Pok.pose {i k m : Nat} {p : Ps} (h : Pok i k p) (hi : i ≤ m) (hk : k ≤ m) : PoseF m p.a1 p.b1 p.a2 p.b2 p.a3 p.b3 := ⟨h.s1.le, h.s2.le, h.s3.le, h.s1.zp.mono hi, h.s1.zq.mono hi, h.s2.zp.mono hi, h.s2.zq.mono hi, h.s3.zp.mono hk, h.s3.zq.mono hk⟩
theorem PoseF.pok {k : Nat} {a1 b1 a2 b2 a3 b3 : Rat} (h : PoseF k a1 b1 a2 b2 a3 b3) (hk : k ≤ 10000) : Pok k k ⟨a1, b1, a2, b2, a3, b3⟩ := ⟨Spn.two h.za1 h.zb1 h.l1 hk, Spn.two h.za2 h.zb2 h.l2 hk, Spn.two h.za3 h.zb3 h.l3 hk⟩
theorem rSlot : RowT Tryd.prog 70 14 := ⟨⟨_, Tryd.underlying70, rfl⟩, by kernel_rfl⟩
theorem rWay : RowT Tryd.prog 65 20 := ⟨⟨_, Tryd.underlying65, rfl⟩, by kernel_rfl⟩
theorem zWay : (Tryd.prog.info? 65).bind (·.zero) = some (.agg #[.bool false, .string ⟨#[]⟩, .string ⟨#[]⟩, .bool false, .string ⟨#[]⟩, .string ⟨#[]⟩, .bool false, .bool false, .string ⟨#[]⟩, .string ⟨#[]⟩, .bool false, .string ⟨#[]⟩, .string ⟨#[]⟩, .bool false, .string ⟨#[]⟩, .string ⟨#[]⟩, .bool false, .bool false, .string ⟨#[]⟩, .string ⟨#[]⟩]) := by kernel_rfl
theorem zSlot : (Tryd.prog.info? 70).bind (·.zero) = some (.agg #[.string ⟨#[]⟩, .bool false, .string ⟨#[]⟩, .string ⟨#[]⟩, .bool false, .string ⟨#[]⟩, .string ⟨#[]⟩, .bool false, .bool false, .string ⟨#[]⟩, .string ⟨#[]⟩, .bool false, .string ⟨#[]⟩, .string ⟨#[]⟩]) := by kernel_rfl
section
variable {P : Program} {ops : Array Oper} {rest : List Oper} {o : Oper} {a a2 : Act} {w0 w : World} {l : Ents} {Q : Exit → Act → World → Prop}
theorem ldX (H : Hid (Hp w0 w l)) {T t : TypeId} {b k n : Nat} {cs ds : List Value} {p : Operand} (X : Hid (Blk w0 b T cs.toArray)) (hK : wpList P ops Q rest a2 w) (ho : o.op = .load t p := by rfl) (hg : Region.wanted o (yielded ops a.tmps) = true := by first | exact wanted_none rfl | exact wanted_some rfl rfl) (hT : RowT P t n := by first | exact rRat | exact rVec | exact rFrame | exact rWay) (hp : a.eval p = .pointer (some ⟨b, k, none⟩) := by rfl)
    (hx : (cs.drop k).take n = ds := by (simp only [List.drop, List.take]; rfl)) (hl : ds.length = n := by rfl) (hn : a.put o.dst (.agg ds.toArray) = a2 := by (simp only [Act.put, List.setIfInBounds_toArray, List.set_cons_succ, List.set_cons_zero]; rfl)) : wpList P ops Q (o :: rest) a w :=
  wpList_loadB ho hg hT hp (Lib.hid (X.out.below H.out.bel X.out.lt)) (by simpa using hx) hl (by rw [hn]; exact hK)
theorem kldX (H : Hid (Hp w0 w l)) {R : Act → Prop} {T t : TypeId} {b k n : Nat} {cs ds : List Value} {p : Operand} (X : Hid (Blk w0 b T cs.toArray)) (hK : wpKeep P ops w R rest a2) (ho : o.op = .load t p := by rfl) (hg : Region.wanted o (yielded ops a.tmps) = true := by first | exact wanted_none rfl | exact wanted_some rfl rfl) (hT : RowT P t n := by first | exact rRat | exact rVec | exact rFrame | exact rWay) (hp : a.eval p = .pointer (some ⟨b, k, none⟩) := by rfl)
    (hx : (cs.drop k).take n = ds := by (simp only [List.drop, List.take]; rfl)) (hl : ds.length = n := by rfl) (hn : a.put o.dst (.agg ds.toArray) = a2 := by (simp only [Act.put, List.setIfInBounds_toArray, List.set_cons_succ, List.set_cons_zero]; rfl)) : wpKeep P ops w R (o :: rest) a :=
  wpKeep_loadB ho hg hT hp (Lib.hid (X.out.below H.out.bel X.out.lt)) (by simpa using hx) hl (by rw [hn]; exact hK)
theorem Hp.getx (h : Hp w0 w l) {b : Nat} {T : TypeId} {cs : List Value} (s : Ext w) (hm : (b, T, cs) ∈ l) : Hid (Blk s.to b T cs.toArray) := (h.get hm).out.below s.h (h.get hm).out.lt
end
end Go.Proofs.YtolekonocbeekaaDoor

namespace Go.Proofs.YtolekonocbeekaaDoor
open Go.RowKit
set_option linter.unusedVariables false
set_option maxRecDepth 100000

set_option maxHeartbeats 4000000 in
theorem Carry_ok {i j k : Nat} (a1 b1 : Option Rat) (p1 q1 : Rat) (a2 b2 : Option Rat) (p2 q2 : Rat) (a3 b3 : Option Rat) (p3 q3 : Rat) (x : Option Rat) (y : Option Rat) (r : Option Rat) (x2 : Option Rat) (y2 : Option Rat) (r2 : Option Rat) (tl : Rat) (th : Rat) (xl : Rat) (xh : Rat) (yl : Rat) (yh : Rat) (w : World) (hk : i ≤ 600 ∧ k ≤ 1000 ∧ j ≤ 50) (A1 : Hid (Spn i a1 b1 p1 q1)) (A2 : Hid (Spn i a2 b2 p2 q2)) (A3 : Hid (Spn k a3 b3 p3 q3)) (Zx : Hid (SzO j x)) (Zy : Hid (SzO j y)) (Zr : Hid (SzO j r)) (Zx2 : Hid (SzO j x2)) (Zy2 : Hid (SzO j y2)) (Zr2 : Hid (SzO j r2)) (G : Hid (tWide (-(valO r)) p3 q3 = false)) (G2 : Hid (tWide (valO r2) (tvQ (-(valO r)) p3) (tvQ (-(valO r)) q3) = false)) (Ftl : Hid ((putP ⟨valO x2, valO y2, valO r2⟩ (gripP ⟨valO x, valO y, valO r⟩ ⟨p1, q1, p2, q2, p3, q3⟩)).a3 = tl)) (Fth : Hid ((putP ⟨valO x2, valO y2, valO r2⟩ (gripP ⟨valO x, valO y, valO r⟩ ⟨p1, q1, p2, q2, p3, q3⟩)).b3 = th)) (Fxl : Hid ((putP ⟨valO x2, valO y2, valO r2⟩ (gripP ⟨valO x, valO y, valO r⟩ ⟨p1, q1, p2, q2, p3, q3⟩)).a1 = xl)) (Fxh : Hid ((putP ⟨valO x2, valO y2, valO r2⟩ (gripP ⟨valO x, valO y, valO r⟩ ⟨p1, q1, p2, q2, p3, q3⟩)).b1 = xh)) (Fyl : Hid ((putP ⟨valO x2, valO y2, valO r2⟩ (gripP ⟨valO x, valO y, valO r⟩ ⟨p1, q1, p2, q2, p3, q3⟩)).a2 = yl)) (Fyh : Hid ((putP ⟨valO x2, valO y2, valO r2⟩ (gripP ⟨valO x, valO y, valO r⟩ ⟨p1, q1, p2, q2, p3, q3⟩)).b2 = yh)) (hT : Tb w) :
    Calls Tryd.prog 32 #[.agg #[.bool (sgO a1), .string (nuO a1), .string (deO a1), .bool (sgO b1), .string (nuO b1), .string (deO b1), .bool (sgO a2), .string (nuO a2), .string (deO a2), .bool (sgO b2), .string (nuO b2), .string (deO b2), .bool (sgO a3), .string (nuO a3), .string (deO a3), .bool (sgO b3), .string (nuO b3), .string (deO b3)], .agg #[.bool (sgO x), .string (nuO x), .string (deO x), .bool (sgO y), .string (nuO y), .string (deO y), .bool false, .bool (sgO r), .string (nuO r), .string (deO r)], .agg #[.bool (sgO x2), .string (nuO x2), .string (deO x2), .bool (sgO y2), .string (nuO y2), .string (deO y2), .bool false, .bool (sgO r2), .string (nuO r2), .string (deO r2)]] w fun e w' => e = .returned (.tuple #[.agg #[.bool (sgO (some xl)), .string (nuO (some xl)), .string (deO (some xl)), .bool (sgO (some xh)), .string (nuO (some xh)), .string (deO (some xh)), .bool (sgO (some yl)), .string (nuO (some yl)), .string (deO (some yl)), .bool (sgO (some yh)), .string (nuO (some yh)), .string (deO (some yh)), .bool (sgO (some tl)), .string (nuO (some tl)), .string (deO (some tl)), .bool (sgO (some th)), .string (nuO (some th)), .string (deO (some th))], .int .i64 0]) ∧ Below w.heap.size w w' := by
  have H := Lib.hid (Hp.start hT)
  clear hT
  have Zp1 : Hid (Sz i p1) := A1.out.zp
  have Sp1 : Hid (SmO (some p1)) := Sz.o Zp1 (by omega)
  have Zq1 : Hid (Sz i q1) := A1.out.zq
  have Sq1 : Hid (SmO (some q1)) := Sz.o Zq1 (by omega)
  have Zp2 : Hid (Sz i p2) := A2.out.zp
  have Sp2 : Hid (SmO (some p2)) := Sz.o Zp2 (by omega)
  have Zq2 : Hid (Sz i q2) := A2.out.zq
  have Sq2 : Hid (SmO (some q2)) := Sz.o Zq2 (by omega)
  have Zp3 : Hid (Sz k p3) := A3.out.zp
  have Sp3 : Hid (SmO (some p3)) := Sz.o Zp3 (by omega)
  have Zq3 : Hid (Sz k q3) := A3.out.zq
  have Sq3 : Hid (SmO (some q3)) := Sz.o Zq3 (by omega)
  have Sx : Hid (SmO x) := SzO.sm Zx (by omega)
  have Sy : Hid (SmO y) := SzO.sm Zy (by omega)
  have Sr : Hid (SmO r) := SzO.sm Zr (by omega)
  have Sx2 : Hid (SmO x2) := SzO.sm Zx2 (by omega)
  have Sy2 : Hid (SmO y2) := SzO.sm Zy2 (by omega)
  have Sr2 : Hid (SmO r2) := SzO.sm Zr2 (by omega)
  obtain ⟨gxl, Egxl⟩ : ∃ z : Rat, Hid ((gripP ⟨valO x, valO y, valO r⟩ ⟨p1, q1, p2, q2, p3, q3⟩).a1 = z) := ⟨_, rfl⟩
  obtain ⟨gxh, Egxh⟩ : ∃ z : Rat, Hid ((gripP ⟨valO x, valO y, valO r⟩ ⟨p1, q1, p2, q2, p3, q3⟩).b1 = z) := ⟨_, rfl⟩
  obtain ⟨gyl, Egyl⟩ : ∃ z : Rat, Hid ((gripP ⟨valO x, valO y, valO r⟩ ⟨p1, q1, p2, q2, p3, q3⟩).a2 = z) := ⟨_, rfl⟩
  obtain ⟨gyh, Egyh⟩ : ∃ z : Rat, Hid ((gripP ⟨valO x, valO y, valO r⟩ ⟨p1, q1, p2, q2, p3, q3⟩).b2 = z) := ⟨_, rfl⟩
  obtain ⟨gtl, Egtl⟩ : ∃ z : Rat, Hid ((gripP ⟨valO x, valO y, valO r⟩ ⟨p1, q1, p2, q2, p3, q3⟩).a3 = z) := ⟨_, rfl⟩
  obtain ⟨gth, Egth⟩ : ∃ z : Rat, Hid ((gripP ⟨valO x, valO y, valO r⟩ ⟨p1, q1, p2, q2, p3, q3⟩).b3 = z) := ⟨_, rfl⟩
  have GX : Hid (Spn (2 * (i + j + 1) + 8 * j + 17) (some gxl) (some gxh) gxl gxh) := by have h1 := Egxl.out; have h2 := Egxh.out; rw [← h1, ← h2]; exact Spn.rx (Spn.sub A1.out (Spn.of Zx (by omega)) rfl rfl (by omega)) (Spn.sub A2.out (Spn.of Zy (by omega)) rfl rfl (by omega)) (Sz.neg Zr) (by omega)
  have GY : Hid (Spn (2 * (i + j + 1) + 8 * j + 17) (some gyl) (some gyh) gyl gyh) := by have h1 := Egyl.out; have h2 := Egyh.out; rw [← h1, ← h2]; exact Spn.ry (Spn.sub A1.out (Spn.of Zx (by omega)) rfl rfl (by omega)) (Spn.sub A2.out (Spn.of Zy (by omega)) rfl rfl (by omega)) (Sz.neg Zr) (by omega)
  have GT : Hid (Spn (2 * (j + k) + 5) (some gtl) (some gth) gtl gth) := by have h1 := Egtl.out; have h2 := Egth.out; rw [← h1, ← h2]; exact Spn.tv A3.out (Sz.neg Zr) G.out (by omega)
  have G3 : Hid (tWide (valO r2) gtl gth = false) := by have h1 := Egtl.out; have h2 := Egth.out; rw [← h1, ← h2]; exact G2.out
  have Etl : Hid ((putP ⟨valO x2, valO y2, valO r2⟩ ⟨gxl, gxh, gyl, gyh, gtl, gth⟩).a3 = tl) := by have h0 := Ftl.out; have h1 := Egxl.out; have h2 := Egxh.out; have h3 := Egyl.out; have h4 := Egyh.out; have h5 := Egtl.out; have h6 := Egth.out; subst_vars; rfl
  have Eth : Hid ((putP ⟨valO x2, valO y2, valO r2⟩ ⟨gxl, gxh, gyl, gyh, gtl, gth⟩).b3 = th) := by have h0 := Fth.out; have h1 := Egxl.out; have h2 := Egxh.out; have h3 := Egyl.out; have h4 := Egyh.out; have h5 := Egtl.out; have h6 := Egth.out; subst_vars; rfl
  have Exl : Hid ((putP ⟨valO x2, valO y2, valO r2⟩ ⟨gxl, gxh, gyl, gyh, gtl, gth⟩).a1 = xl) := by have h0 := Fxl.out; have h1 := Egxl.out; have h2 := Egxh.out; have h3 := Egyl.out; have h4 := Egyh.out; have h5 := Egtl.out; have h6 := Egth.out; subst_vars; rfl
  have Exh : Hid ((putP ⟨valO x2, valO y2, valO r2⟩ ⟨gxl, gxh, gyl, gyh, gtl, gth⟩).b1 = xh) := by have h0 := Fxh.out; have h1 := Egxl.out; have h2 := Egxh.out; have h3 := Egyl.out; have h4 := Egyh.out; have h5 := Egtl.out; have h6 := Egth.out; subst_vars; rfl
  have Eyl : Hid ((putP ⟨valO x2, valO y2, valO r2⟩ ⟨gxl, gxh, gyl, gyh, gtl, gth⟩).a2 = yl) := by have h0 := Fyl.out; have h1 := Egxl.out; have h2 := Egxh.out; have h3 := Egyl.out; have h4 := Egyh.out; have h5 := Egtl.out; have h6 := Egth.out; subst_vars; rfl
  have Eyh : Hid ((putP ⟨valO x2, valO y2, valO r2⟩ ⟨gxl, gxh, gyl, gyh, gtl, gth⟩).b2 = yh) := by have h0 := Fyh.out; have h1 := Egxl.out; have h2 := Egxh.out; have h3 := Egyl.out; have h4 := Egyh.out; have h5 := Egtl.out; have h6 := Egth.out; subst_vars; rfl
  go_enter Tryd.func32, Tryd.ntmps32
  go_wp2_with (first
      | ((with_reducible refine isLoad ?_); refine ldA H ?_)
      | ((with_reducible refine isBox ?_); refine bxA H ?_; clear H; intro _ _ H)
      | ((with_reducible refine isAlloc ?_); refine alA H ?_; clear H; intro _ _ H))
  refine (Grip_ok a1 b1 p1 q1 a2 b2 p2 q2 a3 b3 p3 q3 x y r gtl gth gxl gxh gyl gyh _ (by omega) A1 A2 A3 Zx Zy Zr G Egtl Egth Egxl Egxh Egyl Egyh H.out.tb).mono ?_
  rintro _ _ ⟨rfl, hb⟩
  replace H := Lib.hid (H.out.go hb)
  clear hb
  go_wp2_with (first
      | ((with_reducible refine isLoad ?_); refine ldA H ?_)
      | ((with_reducible refine isStore ?_); refine stA H ?_; clear H; intro _ H)
      | ((with_reducible refine isAlloc ?_); refine alA H ?_; clear H; intro _ _ H))
  refine (Put_ok (i := 2 * (i + j + 1) + 8 * j + 17) (j := j) (k := 2 * (j + k) + 5) (some gxl) (some gxh) gxl gxh (some gyl) (some gyh) gyl gyh (some gtl) (some gth) gtl gth x2 y2 r2 tl th xl xh yl yh _ (by omega) GX GY GT Zx2 Zy2 Zr2 G3 Etl Eth Exl Exh Eyl Eyh H.out.tb).mono ?_
  rintro _ _ ⟨rfl, hb⟩
  replace H := Lib.hid (H.out.go hb)
  clear hb
  go_wp2_with (first
      | ((with_reducible refine isStore ?_); refine stA H ?_; clear H; intro _ H))
  exact bodyPost_ret (results_Hv H Tryd.results32 (by (first | exact rRat | exact rSpan | exact rPose | exact rFrame | exact rVec | exact rTurn | exact rBox)) rfl (by (repeat (first | exact List.Mem.head _ | refine List.Mem.tail _ ?_ | assumption))) (by rfl) (by rfl)) rfl ⟨rfl, H.out.bel⟩

set_option maxHeartbeats 4000000 in
theorem Carry_wide1 {i j k : Nat} (a1 b1 : Option Rat) (p1 q1 : Rat) (a2 b2 : Option Rat) (p2 q2 : Rat) (a3 b3 : Option Rat) (p3 q3 : Rat) (x : Option Rat) (y : Option Rat) (r : Option Rat) (x2 : Option Rat) (y2 : Option Rat) (r2 : Option Rat) (w : World) (hk : i ≤ 600 ∧ k ≤ 1000 ∧ j ≤ 50) (A1 : Hid (Spn i a1 b1 p1 q1)) (A2 : Hid (Spn i a2 b2 p2 q2)) (A3 : Hid (Spn k a3 b3 p3 q3)) (Zx : Hid (SzO j x)) (Zy : Hid (SzO j y)) (Zr : Hid (SzO j r)) (Zx2 : Hid (SzO j x2)) (Zy2 : Hid (SzO j y2)) (Zr2 : Hid (SzO j r2)) (G : Hid (tWide (-(valO r)) p3 q3 = true)) (hT : Tb w) :
    Calls Tryd.prog 32 #[.agg #[.bool (sgO a1), .string (nuO a1), .string (deO a1), .bool (sgO b1), .string (nuO b1), .string (deO b1), .bool (sgO a2), .string (nuO a2), .string (deO a2), .bool (sgO b2), .string (nuO b2), .string (deO b2), .bool (sgO a3), .string (nuO a3), .string (deO a3), .bool (sgO b3), .string (nuO b3), .string (deO b3)], .agg #[.bool (sgO x), .string (nuO x), .string (deO x), .bool (sgO y), .string (nuO y), .string (deO y), .bool false, .bool (sgO r), .string (nuO r), .string (deO r)], .agg #[.bool (sgO x2), .string (nuO x2), .string (deO x2), .bool (sgO y2), .string (nuO y2), .string (deO y2), .bool false, .bool (sgO r2), .string (nuO r2), .string (deO r2)]] w fun e w' => e = .returned (.tuple #[.agg #[.bool false, .string ⟨#[]⟩, .string ⟨#[]⟩, .bool false, .string ⟨#[]⟩, .string ⟨#[]⟩, .bool false, .string ⟨#[]⟩, .string ⟨#[]⟩, .bool false, .string ⟨#[]⟩, .string ⟨#[]⟩, .bool false, .string ⟨#[]⟩, .string ⟨#[]⟩, .bool false, .string ⟨#[]⟩, .string ⟨#[]⟩], .int .i64 18]) ∧ Below w.heap.size w w' := by
  have H := Lib.hid (Hp.start hT)
  clear hT
  have Zp1 : Hid (Sz i p1) := A1.out.zp
  have Sp1 : Hid (SmO (some p1)) := Sz.o Zp1 (by omega)
  have Zq1 : Hid (Sz i q1) := A1.out.zq
  have Sq1 : Hid (SmO (some q1)) := Sz.o Zq1 (by omega)
  have Zp2 : Hid (Sz i p2) := A2.out.zp
  have Sp2 : Hid (SmO (some p2)) := Sz.o Zp2 (by omega)
  have Zq2 : Hid (Sz i q2) := A2.out.zq
  have Sq2 : Hid (SmO (some q2)) := Sz.o Zq2 (by omega)
  have Zp3 : Hid (Sz k p3) := A3.out.zp
  have Sp3 : Hid (SmO (some p3)) := Sz.o Zp3 (by omega)
  have Zq3 : Hid (Sz k q3) := A3.out.zq
  have Sq3 : Hid (SmO (some q3)) := Sz.o Zq3 (by omega)
  have Sx : Hid (SmO x) := SzO.sm Zx (by omega)
  have Sy : Hid (SmO y) := SzO.sm Zy (by omega)
  have Sr : Hid (SmO r) := SzO.sm Zr (by omega)
  have Sx2 : Hid (SmO x2) := SzO.sm Zx2 (by omega)
  have Sy2 : Hid (SmO y2) := SzO.sm Zy2 (by omega)
  have Sr2 : Hid (SmO r2) := SzO.sm Zr2 (by omega)
  go_enter Tryd.func32, Tryd.ntmps32
  go_wp2_with (first
      | ((with_reducible refine isLoad ?_); refine ldA H ?_)
      | ((with_reducible refine isBox ?_); refine bxA H ?_; clear H; intro _ _ H)
      | ((with_reducible refine isAlloc ?_); refine alA H ?_; clear H; intro _ _ H))
  refine (Grip_wide a1 b1 p1 q1 a2 b2 p2 q2 a3 b3 p3 q3 x y r _ (by omega) A1 A2 A3 Zx Zy Zr G H.out.tb).mono ?_
  rintro _ _ ⟨rfl, hb⟩
  replace H := Lib.hid (H.out.go hb)
  clear hb
  go_wp2_with (first
      | ((with_reducible refine isStore ?_); refine stA H ?_; clear H; intro _ H)
      | ((with_reducible refine isAlloc ?_); refine alA H ?_; clear H; intro _ _ H))
  exact bodyPost_ret (results_Hv H Tryd.results32 (by (first | exact rRat | exact rSpan | exact rPose | exact rFrame | exact rVec | exact rTurn | exact rBox)) rfl (by (repeat (first | exact List.Mem.head _ | refine List.Mem.tail _ ?_ | assumption))) (by rfl) (by rfl)) rfl ⟨rfl, H.out.bel⟩

set_option maxHeartbeats 4000000 in
theorem Carry_wide2 {i j k : Nat} (a1 b1 : Option Rat) (p1 q1 : Rat) (a2 b2 : Option Rat) (p2 q2 : Rat) (a3 b3 : Option Rat) (p3 q3 : Rat) (x : Option Rat) (y : Option Rat) (r : Option Rat) (x2 : Option Rat) (y2 : Option Rat) (r2 : Option Rat) (w : World) (hk : i ≤ 600 ∧ k ≤ 1000 ∧ j ≤ 50) (A1 : Hid (Spn i a1 b1 p1 q1)) (A2 : Hid (Spn i a2 b2 p2 q2)) (A3 : Hid (Spn k a3 b3 p3 q3)) (Zx : Hid (SzO j x)) (Zy : Hid (SzO j y)) (Zr : Hid (SzO j r)) (Zx2 : Hid (SzO j x2)) (Zy2 : Hid (SzO j y2)) (Zr2 : Hid (SzO j r2)) (G : Hid (tWide (-(valO r)) p3 q3 = false)) (G2 : Hid (tWide (valO r2) (tvQ (-(valO r)) p3) (tvQ (-(valO r)) q3) = true)) (hT : Tb w) :
    Calls Tryd.prog 32 #[.agg #[.bool (sgO a1), .string (nuO a1), .string (deO a1), .bool (sgO b1), .string (nuO b1), .string (deO b1), .bool (sgO a2), .string (nuO a2), .string (deO a2), .bool (sgO b2), .string (nuO b2), .string (deO b2), .bool (sgO a3), .string (nuO a3), .string (deO a3), .bool (sgO b3), .string (nuO b3), .string (deO b3)], .agg #[.bool (sgO x), .string (nuO x), .string (deO x), .bool (sgO y), .string (nuO y), .string (deO y), .bool false, .bool (sgO r), .string (nuO r), .string (deO r)], .agg #[.bool (sgO x2), .string (nuO x2), .string (deO x2), .bool (sgO y2), .string (nuO y2), .string (deO y2), .bool false, .bool (sgO r2), .string (nuO r2), .string (deO r2)]] w fun e w' => e = .returned (.tuple #[.agg #[.bool false, .string ⟨#[]⟩, .string ⟨#[]⟩, .bool false, .string ⟨#[]⟩, .string ⟨#[]⟩, .bool false, .string ⟨#[]⟩, .string ⟨#[]⟩, .bool false, .string ⟨#[]⟩, .string ⟨#[]⟩, .bool false, .string ⟨#[]⟩, .string ⟨#[]⟩, .bool false, .string ⟨#[]⟩, .string ⟨#[]⟩], .int .i64 18]) ∧ Below w.heap.size w w' := by
  have H := Lib.hid (Hp.start hT)
  clear hT
  have Zp1 : Hid (Sz i p1) := A1.out.zp
  have Sp1 : Hid (SmO (some p1)) := Sz.o Zp1 (by omega)
  have Zq1 : Hid (Sz i q1) := A1.out.zq
  have Sq1 : Hid (SmO (some q1)) := Sz.o Zq1 (by omega)
  have Zp2 : Hid (Sz i p2) := A2.out.zp
  have Sp2 : Hid (SmO (some p2)) := Sz.o Zp2 (by omega)
  have Zq2 : Hid (Sz i q2) := A2.out.zq
  have Sq2 : Hid (SmO (some q2)) := Sz.o Zq2 (by omega)
  have Zp3 : Hid (Sz k p3) := A3.out.zp
  have Sp3 : Hid (SmO (some p3)) := Sz.o Zp3 (by omega)
  have Zq3 : Hid (Sz k q3) := A3.out.zq
  have Sq3 : Hid (SmO (some q3)) := Sz.o Zq3 (by omega)
  have Sx : Hid (SmO x) := SzO.sm Zx (by omega)
  have Sy : Hid (SmO y) := SzO.sm Zy (by omega)
  have Sr : Hid (SmO r) := SzO.sm Zr (by omega)
  have Sx2 : Hid (SmO x2) := SzO.sm Zx2 (by omega)
  have Sy2 : Hid (SmO y2) := SzO.sm Zy2 (by omega)
  have Sr2 : Hid (SmO r2) := SzO.sm Zr2 (by omega)
  obtain ⟨gxl, Egxl⟩ : ∃ z : Rat, Hid ((gripP ⟨valO x, valO y, valO r⟩ ⟨p1, q1, p2, q2, p3, q3⟩).a1 = z) := ⟨_, rfl⟩
  obtain ⟨gxh, Egxh⟩ : ∃ z : Rat, Hid ((gripP ⟨valO x, valO y, valO r⟩ ⟨p1, q1, p2, q2, p3, q3⟩).b1 = z) := ⟨_, rfl⟩
  obtain ⟨gyl, Egyl⟩ : ∃ z : Rat, Hid ((gripP ⟨valO x, valO y, valO r⟩ ⟨p1, q1, p2, q2, p3, q3⟩).a2 = z) := ⟨_, rfl⟩
  obtain ⟨gyh, Egyh⟩ : ∃ z : Rat, Hid ((gripP ⟨valO x, valO y, valO r⟩ ⟨p1, q1, p2, q2, p3, q3⟩).b2 = z) := ⟨_, rfl⟩
  obtain ⟨gtl, Egtl⟩ : ∃ z : Rat, Hid ((gripP ⟨valO x, valO y, valO r⟩ ⟨p1, q1, p2, q2, p3, q3⟩).a3 = z) := ⟨_, rfl⟩
  obtain ⟨gth, Egth⟩ : ∃ z : Rat, Hid ((gripP ⟨valO x, valO y, valO r⟩ ⟨p1, q1, p2, q2, p3, q3⟩).b3 = z) := ⟨_, rfl⟩
  have GX : Hid (Spn (2 * (i + j + 1) + 8 * j + 17) (some gxl) (some gxh) gxl gxh) := by have h1 := Egxl.out; have h2 := Egxh.out; rw [← h1, ← h2]; exact Spn.rx (Spn.sub A1.out (Spn.of Zx (by omega)) rfl rfl (by omega)) (Spn.sub A2.out (Spn.of Zy (by omega)) rfl rfl (by omega)) (Sz.neg Zr) (by omega)
  have GY : Hid (Spn (2 * (i + j + 1) + 8 * j + 17) (some gyl) (some gyh) gyl gyh) := by have h1 := Egyl.out; have h2 := Egyh.out; rw [← h1, ← h2]; exact Spn.ry (Spn.sub A1.out (Spn.of Zx (by omega)) rfl rfl (by omega)) (Spn.sub A2.out (Spn.of Zy (by omega)) rfl rfl (by omega)) (Sz.neg Zr) (by omega)
  have GT : Hid (Spn (2 * (j + k) + 5) (some gtl) (some gth) gtl gth) := by have h1 := Egtl.out; have h2 := Egth.out; rw [← h1, ← h2]; exact Spn.tv A3.out (Sz.neg Zr) G.out (by omega)
  have G3 : Hid (tWide (valO r2) gtl gth = true) := by have h1 := Egtl.out; have h2 := Egth.out; rw [← h1, ← h2]; exact G2.out
  go_enter Tryd.func32, Tryd.ntmps32
  go_wp2_with (first
      | ((with_reducible refine isLoad ?_); refine ldA H ?_)
      | ((with_reducible refine isBox ?_); refine bxA H ?_; clear H; intro _ _ H)
      | ((with_reducible refine isAlloc ?_); refine alA H ?_; clear H; intro _ _ H))
  refine (Grip_ok a1 b1 p1 q1 a2 b2 p2 q2 a3 b3 p3 q3 x y r gtl gth gxl gxh gyl gyh _ (by omega) A1 A2 A3 Zx Zy Zr G Egtl Egth Egxl Egxh Egyl Egyh H.out.tb).mono ?_
  rintro _ _ ⟨rfl, hb⟩
  replace H := Lib.hid (H.out.go hb)
  clear hb
  go_wp2_with (first
      | ((with_reducible refine isLoad ?_); refine ldA H ?_)
      | ((with_reducible refine isStore ?_); refine stA H ?_; clear H; intro _ H)
      | ((with_reducible refine isAlloc ?_); refine alA H ?_; clear H; intro _ _ H))
  refine (Put_wide (i := 2 * (i + j + 1) + 8 * j + 17) (j := j) (k := 2 * (j + k) + 5) (some gxl) (some gxh) gxl gxh (some gyl) (some gyh) gyl gyh (some gtl) (some gth) gtl gth x2 y2 r2 _ (by omega) GX GY GT Zx2 Zy2 Zr2 G3 H.out.tb).mono ?_
  rintro _ _ ⟨rfl, hb⟩
  replace H := Lib.hid (H.out.go hb)
  clear hb
  go_wp2_with (first
      | ((with_reducible refine isStore ?_); refine stA H ?_; clear H; intro _ H))
  exact bodyPost_ret (results_Hv H Tryd.results32 (by (first | exact rRat | exact rSpan | exact rPose | exact rFrame | exact rVec | exact rTurn | exact rBox)) rfl (by (repeat (first | exact List.Mem.head _ | refine List.Mem.tail _ ?_ | assumption))) (by rfl) (by rfl)) rfl ⟨rfl, H.out.bel⟩
end Go.Proofs.YtolekonocbeekaaDoor

namespace Go.Proofs.YtolekonocbeekaaDoor
open Go.RowKit
set_option linter.unusedVariables false
set_option maxRecDepth 100000

theorem mx_self0 : mx ((0 : Int) : Rat) ((0 : Int) : Rat) = ((0 : Int) : Rat) := by unfold mx; split <;> rfl
theorem wid0L (a : Rat) : a - mx (valO (some ((0 : Int) : Rat))) ((0 : Int) : Rat) = a := by
  rw [show valO (some ((0 : Int) : Rat)) = ((0 : Int) : Rat) from rfl, mx_self0]
  have e : ((0 : Int) : Rat) = 0 := rfl
  grind
theorem wid0H (a : Rat) : a + mx (valO (some ((0 : Int) : Rat))) ((0 : Int) : Rat) = a := by
  rw [show valO (some ((0 : Int) : Rat)) = ((0 : Int) : Rat) from rfl, mx_self0]
  have e : ((0 : Int) : Rat) = 0 := rfl
  grind
set_option maxHeartbeats 4000000 in
theorem Drift_ok {i j k : Nat} (a1 b1 a2 b2 a3 b3 : Rat) (x : Option Rat) (y : Option Rat) (r : Option Rat) (x2 : Option Rat) (y2 : Option Rat) (r2 : Option Rat) (by_ sl : Rat) (c : Nat) (tl : Rat) (th : Rat) (xl : Rat) (xh : Rat) (yl : Rat) (yh : Rat) (w : World) (hk : i ≤ 1010 ∧ k ≤ 1400 ∧ j ≤ 20) (A1 : Hid (Spn i (some a1) (some b1) a1 b1)) (A2 : Hid (Spn i (some a2) (some b2) a2 b2)) (A3 : Hid (Spn k (some a3) (some b3) a3 b3)) (Zx : Hid (SzO j x)) (Zy : Hid (SzO j y)) (Zr : Hid (SzO j r)) (Zx2 : Hid (SzO j x2)) (Zy2 : Hid (SzO j y2)) (Zr2 : Hid (SzO j r2)) (Zby_ : Hid (Sz j by_)) (hby_ : Hid (0 ≤ by_)) (Zsl : Hid (Sz j sl)) (hsl : Hid (0 ≤ sl)) (X : Hid (Blk w c 65 [.bool (sgO x), .string (nuO x), .string (deO x), .bool (sgO y), .string (nuO y), .string (deO y), .bool false, .bool (sgO r), .string (nuO r), .string (deO r), .bool (sgO x2), .string (nuO x2), .string (deO x2), .bool (sgO y2), .string (nuO y2), .string (deO y2), .bool false, .bool (sgO r2), .string (nuO r2), .string (deO r2)].toArray)) (G : Hid (tWide (-(valO r)) a3 b3 = false)) (G2 : Hid (tWide (valO r2) (tvQ (-(valO r)) a3 - sl) (tvQ (-(valO r)) b3 + sl) = false)) (Ftl : Hid ((putP ⟨valO x2, valO y2, valO r2⟩ (widP by_ sl (gripP ⟨valO x, valO y, valO r⟩ ⟨a1, b1, a2, b2, a3, b3⟩))).a3 = tl)) (Fth : Hid ((putP ⟨valO x2, valO y2, valO r2⟩ (widP by_ sl (gripP ⟨valO x, valO y, valO r⟩ ⟨a1, b1, a2, b2, a3, b3⟩))).b3 = th)) (Fxl : Hid ((putP ⟨valO x2, valO y2, valO r2⟩ (widP by_ sl (gripP ⟨valO x, valO y, valO r⟩ ⟨a1, b1, a2, b2, a3, b3⟩))).a1 = xl)) (Fxh : Hid ((putP ⟨valO x2, valO y2, valO r2⟩ (widP by_ sl (gripP ⟨valO x, valO y, valO r⟩ ⟨a1, b1, a2, b2, a3, b3⟩))).b1 = xh)) (Fyl : Hid ((putP ⟨valO x2, valO y2, valO r2⟩ (widP by_ sl (gripP ⟨valO x, valO y, valO r⟩ ⟨a1, b1, a2, b2, a3, b3⟩))).a2 = yl)) (Fyh : Hid ((putP ⟨valO x2, valO y2, valO r2⟩ (widP by_ sl (gripP ⟨valO x, valO y, valO r⟩ ⟨a1, b1, a2, b2, a3, b3⟩))).b2 = yh)) (hT : Tb w) :
    Calls Tryd.prog 34 #[.agg #[.bool (sgO (some a1)), .string (nuO (some a1)), .string (deO (some a1)), .bool (sgO (some b1)), .string (nuO (some b1)), .string (deO (some b1)), .bool (sgO (some a2)), .string (nuO (some a2)), .string (deO (some a2)), .bool (sgO (some b2)), .string (nuO (some b2)), .string (deO (some b2)), .bool (sgO (some a3)), .string (nuO (some a3)), .string (deO (some a3)), .bool (sgO (some b3)), .string (nuO (some b3)), .string (deO (some b3))], .slice (some ⟨c, 0, none⟩) 1 1, .agg #[.bool (sgO (some by_)), .string (nuO (some by_)), .string (deO (some by_))], .agg #[.bool (sgO (some sl)), .string (nuO (some sl)), .string (deO (some sl))]] w fun e w' => e = .returned (.tuple #[.agg #[.bool (sgO (some xl)), .string (nuO (some xl)), .string (deO (some xl)), .bool (sgO (some xh)), .string (nuO (some xh)), .string (deO (some xh)), .bool (sgO (some yl)), .string (nuO (some yl)), .string (deO (some yl)), .bool (sgO (some yh)), .string (nuO (some yh)), .string (deO (some yh)), .bool (sgO (some tl)), .string (nuO (some tl)), .string (deO (some tl)), .bool (sgO (some th)), .string (nuO (some th)), .string (deO (some th))], .int .i64 0]) ∧ Below w.heap.size w w' := by
  have H := Lib.hid (Hp.start hT)
  clear hT
  have Sx : Hid (SmO x) := SzO.sm Zx (by omega)
  have Sy : Hid (SmO y) := SzO.sm Zy (by omega)
  have Sr : Hid (SmO r) := SzO.sm Zr (by omega)
  have Sx2 : Hid (SmO x2) := SzO.sm Zx2 (by omega)
  have Sy2 : Hid (SmO y2) := SzO.sm Zy2 (by omega)
  have Sr2 : Hid (SmO r2) := SzO.sm Zr2 (by omega)
  have Sby_ : Hid (SmO (some by_)) := Sz.o Zby_ (by omega)
  have Ssl : Hid (SmO (some sl)) := Sz.o Zsl (by omega)
  obtain ⟨o, Eo⟩ : ∃ z : Rat, Hid (((0 : Int) : Rat) = z) := ⟨_, rfl⟩
  have Zo : Hid (Sz 3 o) := szEq Eo (Sz.int (0) (by decide))
  have So : Hid (SmO (some o)) := Sz.o Zo (by omega)
  have Zo1 : Hid (Sz 3 o) := Zo
  have O1 : Hid (a1 - mx (valO (some o)) ((0 : Int) : Rat) = a1) := by have h := Eo.out; subst h; exact wid0L a1
  have Q1 : Hid (b1 + mx (valO (some o)) ((0 : Int) : Rat) = b1) := by have h := Eo.out; subst h; exact wid0H b1
  have O2 : Hid (a2 - mx (valO (some o)) ((0 : Int) : Rat) = a2) := by have h := Eo.out; subst h; exact wid0L a2
  have Q2 : Hid (b2 + mx (valO (some o)) ((0 : Int) : Rat) = b2) := by have h := Eo.out; subst h; exact wid0H b2
  have O3 : Hid (a3 - mx (valO (some o)) ((0 : Int) : Rat) = a3) := by have h := Eo.out; subst h; exact wid0L a3
  have Q3 : Hid (b3 + mx (valO (some o)) ((0 : Int) : Rat) = b3) := by have h := Eo.out; subst h; exact wid0H b3
  obtain ⟨gxl, Egxl⟩ : ∃ z : Rat, Hid ((gripP ⟨valO x, valO y, valO r⟩ ⟨a1, b1, a2, b2, a3, b3⟩).a1 = z) := ⟨_, rfl⟩
  obtain ⟨gxh, Egxh⟩ : ∃ z : Rat, Hid ((gripP ⟨valO x, valO y, valO r⟩ ⟨a1, b1, a2, b2, a3, b3⟩).b1 = z) := ⟨_, rfl⟩
  obtain ⟨gyl, Egyl⟩ : ∃ z : Rat, Hid ((gripP ⟨valO x, valO y, valO r⟩ ⟨a1, b1, a2, b2, a3, b3⟩).a2 = z) := ⟨_, rfl⟩
  obtain ⟨gyh, Egyh⟩ : ∃ z : Rat, Hid ((gripP ⟨valO x, valO y, valO r⟩ ⟨a1, b1, a2, b2, a3, b3⟩).b2 = z) := ⟨_, rfl⟩
  obtain ⟨gtl, Egtl⟩ : ∃ z : Rat, Hid ((gripP ⟨valO x, valO y, valO r⟩ ⟨a1, b1, a2, b2, a3, b3⟩).a3 = z) := ⟨_, rfl⟩
  obtain ⟨gth, Egth⟩ : ∃ z : Rat, Hid ((gripP ⟨valO x, valO y, valO r⟩ ⟨a1, b1, a2, b2, a3, b3⟩).b3 = z) := ⟨_, rfl⟩
  have GX : Hid (Spn (2 * (i + j + 1) + 8 * j + 17) (some gxl) (some gxh) gxl gxh) := by have h1 := Egxl.out; have h2 := Egxh.out; rw [← h1, ← h2]; exact Spn.rx (Spn.sub A1.out (Spn.of Zx (by omega)) rfl rfl (by omega)) (Spn.sub A2.out (Spn.of Zy (by omega)) rfl rfl (by omega)) (Sz.neg Zr) (by omega)
  have GY : Hid (Spn (2 * (i + j + 1) + 8 * j + 17) (some gyl) (some gyh) gyl gyh) := by have h1 := Egyl.out; have h2 := Egyh.out; rw [← h1, ← h2]; exact Spn.ry (Spn.sub A1.out (Spn.of Zx (by omega)) rfl rfl (by omega)) (Spn.sub A2.out (Spn.of Zy (by omega)) rfl rfl (by omega)) (Sz.neg Zr) (by omega)
  have GT : Hid (Spn (2 * (j + k) + 5) (some gtl) (some gth) gtl gth) := by have h1 := Egtl.out; have h2 := Egth.out; rw [← h1, ← h2]; exact Spn.tv A3.out (Sz.neg Zr) G.out (by omega)
  obtain ⟨wl1, Ewl1⟩ : ∃ z : Rat, Hid (gxl - by_ = z) := ⟨_, rfl⟩
  obtain ⟨wh1, Ewh1⟩ : ∃ z : Rat, Hid (gxh + by_ = z) := ⟨_, rfl⟩
  have Fl1 : Hid (gxl - mx (valO (some by_)) ((0 : Int) : Rat) = wl1) := by unfold Hid; rw [show valO (some by_) = by_ from rfl, mx_zero hby_]; exact Ewl1
  have Fh1 : Hid (gxh + mx (valO (some by_)) ((0 : Int) : Rat) = wh1) := by unfold Hid; rw [show valO (some by_) = by_ from rfl, mx_zero hby_]; exact Ewh1
  obtain ⟨wl2, Ewl2⟩ : ∃ z : Rat, Hid (gyl - by_ = z) := ⟨_, rfl⟩
  obtain ⟨wh2, Ewh2⟩ : ∃ z : Rat, Hid (gyh + by_ = z) := ⟨_, rfl⟩
  have Fl2 : Hid (gyl - mx (valO (some by_)) ((0 : Int) : Rat) = wl2) := by unfold Hid; rw [show valO (some by_) = by_ from rfl, mx_zero hby_]; exact Ewl2
  have Fh2 : Hid (gyh + mx (valO (some by_)) ((0 : Int) : Rat) = wh2) := by unfold Hid; rw [show valO (some by_) = by_ from rfl, mx_zero hby_]; exact Ewh2
  obtain ⟨wl3, Ewl3⟩ : ∃ z : Rat, Hid (gtl - sl = z) := ⟨_, rfl⟩
  obtain ⟨wh3, Ewh3⟩ : ∃ z : Rat, Hid (gth + sl = z) := ⟨_, rfl⟩
  have Fl3 : Hid (gtl - mx (valO (some sl)) ((0 : Int) : Rat) = wl3) := by unfold Hid; rw [show valO (some sl) = sl from rfl, mx_zero hsl]; exact Ewl3
  have Fh3 : Hid (gth + mx (valO (some sl)) ((0 : Int) : Rat) = wh3) := by unfold Hid; rw [show valO (some sl) = sl from rfl, mx_zero hsl]; exact Ewh3
  have W1 : Hid (Spn ((2 * (i + j + 1) + 8 * j + 17) + j + 1) (some wl1) (some wh1) wl1 wh1) := by have h1 := Ewl1.out; have h2 := Ewh1.out; rw [← h1, ← h2]; exact Spn.wide GX.out Zby_ hby_.out (by omega)
  have W2 : Hid (Spn ((2 * (i + j + 1) + 8 * j + 17) + j + 1) (some wl2) (some wh2) wl2 wh2) := by have h1 := Ewl2.out; have h2 := Ewh2.out; rw [← h1, ← h2]; exact Spn.wide GY.out Zby_ hby_.out (by omega)
  have W3 : Hid (Spn ((2 * (j + k) + 5) + j + 1) (some wl3) (some wh3) wl3 wh3) := by have h1 := Ewl3.out; have h2 := Ewh3.out; rw [← h1, ← h2]; exact Spn.wide GT.out Zsl hsl.out (by omega)
  have G3 : Hid (tWide (valO r2) wl3 wh3 = false) := by have h1 := Ewl3.out; have h2 := Ewh3.out; have h3 := Egtl.out; have h4 := Egth.out; rw [← h1, ← h2, ← h3, ← h4]; exact G2.out
  have Etl : Hid ((putP ⟨valO x2, valO y2, valO r2⟩ ⟨wl1, wh1, wl2, wh2, wl3, wh3⟩).a3 = tl) := by have h0 := Ftl.out; have h1 := Eo.out; have h2 := Egxl.out; have h3 := Egxh.out; have h4 := Egyl.out; have h5 := Egyh.out; have h6 := Egtl.out; have h7 := Egth.out; have h8 := Ewl1.out; have h9 := Ewh1.out; have h10 := Ewl2.out; have h11 := Ewh2.out; have h12 := Ewl3.out; have h13 := Ewh3.out; subst_vars; rfl
  have Eth : Hid ((putP ⟨valO x2, valO y2, valO r2⟩ ⟨wl1, wh1, wl2, wh2, wl3, wh3⟩).b3 = th) := by have h0 := Fth.out; have h1 := Eo.out; have h2 := Egxl.out; have h3 := Egxh.out; have h4 := Egyl.out; have h5 := Egyh.out; have h6 := Egtl.out; have h7 := Egth.out; have h8 := Ewl1.out; have h9 := Ewh1.out; have h10 := Ewl2.out; have h11 := Ewh2.out; have h12 := Ewl3.out; have h13 := Ewh3.out; subst_vars; rfl
  have Exl : Hid ((putP ⟨valO x2, valO y2, valO r2⟩ ⟨wl1, wh1, wl2, wh2, wl3, wh3⟩).a1 = xl) := by have h0 := Fxl.out; have h1 := Eo.out; have h2 := Egxl.out; have h3 := Egxh.out; have h4 := Egyl.out; have h5 := Egyh.out; have h6 := Egtl.out; have h7 := Egth.out; have h8 := Ewl1.out; have h9 := Ewh1.out; have h10 := Ewl2.out; have h11 := Ewh2.out; have h12 := Ewl3.out; have h13 := Ewh3.out; subst_vars; rfl
  have Exh : Hid ((putP ⟨valO x2, valO y2, valO r2⟩ ⟨wl1, wh1, wl2, wh2, wl3, wh3⟩).b1 = xh) := by have h0 := Fxh.out; have h1 := Eo.out; have h2 := Egxl.out; have h3 := Egxh.out; have h4 := Egyl.out; have h5 := Egyh.out; have h6 := Egtl.out; have h7 := Egth.out; have h8 := Ewl1.out; have h9 := Ewh1.out; have h10 := Ewl2.out; have h11 := Ewh2.out; have h12 := Ewl3.out; have h13 := Ewh3.out; subst_vars; rfl
  have Eyl : Hid ((putP ⟨valO x2, valO y2, valO r2⟩ ⟨wl1, wh1, wl2, wh2, wl3, wh3⟩).a2 = yl) := by have h0 := Fyl.out; have h1 := Eo.out; have h2 := Egxl.out; have h3 := Egxh.out; have h4 := Egyl.out; have h5 := Egyh.out; have h6 := Egtl.out; have h7 := Egth.out; have h8 := Ewl1.out; have h9 := Ewh1.out; have h10 := Ewl2.out; have h11 := Ewh2.out; have h12 := Ewl3.out; have h13 := Ewh3.out; subst_vars; rfl
  have Eyh : Hid ((putP ⟨valO x2, valO y2, valO r2⟩ ⟨wl1, wh1, wl2, wh2, wl3, wh3⟩).b2 = yh) := by have h0 := Fyh.out; have h1 := Eo.out; have h2 := Egxl.out; have h3 := Egxh.out; have h4 := Egyl.out; have h5 := Egyh.out; have h6 := Egtl.out; have h7 := Egth.out; have h8 := Ewl1.out; have h9 := Ewh1.out; have h10 := Ewl2.out; have h11 := Ewh2.out; have h12 := Ewl3.out; have h13 := Ewh3.out; subst_vars; rfl
  go_enter Tryd.func34, Tryd.ntmps34
  go_wp2_with (first
      | ((with_reducible refine isBox ?_); refine bxA H ?_; clear H; intro _ _ H)
      | ((with_reducible refine isAlloc ?_); refine alA H ?_; clear H; intro _ _ H))
  refine wp_region_F1 4 H (by kernel_rfl) (by kernel_rfl) rfl (by simp [Allocs, go_sem]; intro _ _; rfl) ?_
  simp only [List.take_succ_cons, List.take_zero, List.drop_succ_cons, List.drop_zero]
  repeat (first
      | ((with_reducible refine kLoad ?_); refine kldA H ?_))
  refine wpK_step (fun K hK => ?_)
  go_simp
  apply Exists.intro
  refine ⟨fun sx => ?_, hK _ ?_⟩
  · go_at_call 35
    exact ROf_any (0) o _ (by decide) (by decide) Eo (H.out.tbx sx)
  clear hK K
  refine wpK_step (fun K hK => ?_)
  go_simp
  apply Exists.intro
  refine ⟨fun sx => ?_, hK _ ?_⟩
  · go_at_call 35
    exact ROf_any (0) o _ (by decide) (by decide) Eo (H.out.tbx sx)
  clear hK K
  refine wpK_step (fun K hK => ?_)
  go_simp
  apply Exists.intro
  refine ⟨fun sx => ?_, hK _ ?_⟩
  · go_at_call 36
    exact Widen_any (j := i) (i := k) (m := 3) (some a1) (some b1) a1 b1 (some a2) (some b2) a2 b2 (some a3) (some b3) a3 b3 (some o) (some o) a1 b1 a2 b2 a3 b3 _ (by omega) A1 A2 A3 Zo1 Zo1 O1 Q1 O2 Q2 O3 Q3 (H.out.tbx sx)
  clear hK K
  refine wpKeep_nil ?_
  clear H
  intro _ _ H
  (simp only [Act.put, List.setIfInBounds_toArray, List.set_cons_succ, List.set_cons_zero])
  go_wp2_with (first
      | ((with_reducible refine isStore ?_); refine stA H ?_; clear H; intro _ H))
  rename_i g1 V1 g2 V2 g3 V3 g4 V4 g5 V5 V6 K7 hK7
  go_loopw [25] (fun i wr => (i = .int .i64 0 ∧ Hid (Hp w wr [(g5, 28, [.bool (sgO (some a1)), .string (nuO (some a1)), .string (deO (some a1)), .bool (sgO (some b1)), .string (nuO (some b1)), .string (deO (some b1)), .bool (sgO (some a2)), .string (nuO (some a2)), .string (deO (some a2)), .bool (sgO (some b2)), .string (nuO (some b2)), .string (deO (some b2)), .bool (sgO (some a3)), .string (nuO (some a3)), .string (deO (some a3)), .bool (sgO (some b3)), .string (nuO (some b3)), .string (deO (some b3))]), (g4, 28, [.bool false, .string ⟨#[]⟩, .string ⟨#[]⟩, .bool false, .string ⟨#[]⟩, .string ⟨#[]⟩, .bool false, .string ⟨#[]⟩, .string ⟨#[]⟩, .bool false, .string ⟨#[]⟩, .string ⟨#[]⟩, .bool false, .string ⟨#[]⟩, .string ⟨#[]⟩, .bool false, .string ⟨#[]⟩, .string ⟨#[]⟩]), (g3, 24, [.bool (sgO (some sl)), .string (nuO (some sl)), .string (deO (some sl))]), (g2, 24, [.bool (sgO (some by_)), .string (nuO (some by_)), .string (deO (some by_))]), (g1, 28, [.bool (sgO (some a1)), .string (nuO (some a1)), .string (deO (some a1)), .bool (sgO (some b1)), .string (nuO (some b1)), .string (deO (some b1)), .bool (sgO (some a2)), .string (nuO (some a2)), .string (deO (some a2)), .bool (sgO (some b2)), .string (nuO (some b2)), .string (deO (some b2)), .bool (sgO (some a3)), .string (nuO (some a3)), .string (deO (some a3)), .bool (sgO (some b3)), .string (nuO (some b3)), .string (deO (some b3))])])) ∨ (i = .int .i64 1 ∧ Hid (Hp w wr [(g5, 28, [.bool (sgO (some xl)), .string (nuO (some xl)), .string (deO (some xl)), .bool (sgO (some xh)), .string (nuO (some xh)), .string (deO (some xh)), .bool (sgO (some yl)), .string (nuO (some yl)), .string (deO (some yl)), .bool (sgO (some yh)), .string (nuO (some yh)), .string (deO (some yh)), .bool (sgO (some tl)), .string (nuO (some tl)), .string (deO (some tl)), .bool (sgO (some th)), .string (nuO (some th)), .string (deO (some th))]), (g4, 28, [.bool false, .string ⟨#[]⟩, .string ⟨#[]⟩, .bool false, .string ⟨#[]⟩, .string ⟨#[]⟩, .bool false, .string ⟨#[]⟩, .string ⟨#[]⟩, .bool false, .string ⟨#[]⟩, .string ⟨#[]⟩, .bool false, .string ⟨#[]⟩, .string ⟨#[]⟩, .bool false, .string ⟨#[]⟩, .string ⟨#[]⟩]), (g3, 24, [.bool (sgO (some sl)), .string (nuO (some sl)), .string (deO (some sl))]), (g2, 24, [.bool (sgO (some by_)), .string (nuO (some by_)), .string (deO (some by_))]), (g1, 28, [.bool (sgO (some a1)), .string (nuO (some a1)), .string (deO (some a1)), .bool (sgO (some b1)), .string (nuO (some b1)), .string (deO (some b1)), .bool (sgO (some a2)), .string (nuO (some a2)), .string (deO (some a2)), .bool (sgO (some b2)), .string (nuO (some b2)), .string (deO (some b2)), .bool (sgO (some a3)), .string (nuO (some a3)), .string (deO (some a3)), .bool (sgO (some b3)), .string (nuO (some b3)), .string (deO (some b3))])]))) (fun i _ => 1 - (intOf i).toNat)
  case atStart => exact .inl ⟨rfl, H⟩
  case round =>
    clear H
    rcases hrel with ⟨rfl, H⟩ | ⟨rfl, H⟩
    · go_wp2_with (first
          | go_skip
          | ((with_reducible refine isLoad ?_); refine ldX H X ?_)
          | ((with_reducible refine isLoad ?_); refine ldA H ?_)
          | ((with_reducible refine isLoad ?_); refine ld1A H ?_)
          | ((with_reducible refine isStore ?_); refine stA H ?_; clear H; intro _ H)
          | ((with_reducible refine isStore ?_); refine st1A H ?_; clear H; intro _ H)
          | ((with_reducible refine isBox ?_); refine bxA H ?_; clear H; intro _ _ H)
          | ((with_reducible refine isAlloc ?_); refine alA H ?_; clear H; intro _ _ H))
      refine (Grip_ok (i := i) (j := j) (k := k) (some a1) (some b1) a1 b1 (some a2) (some b2) a2 b2 (some a3) (some b3) a3 b3 x y r gtl gth gxl gxh gyl gyh _ (by omega) A1 A2 A3 Zx Zy Zr G Egtl Egth Egxl Egxh Egyl Egyh H.out.tb).mono ?_
      rintro _ _ ⟨rfl, hb⟩
      replace H := Lib.hid (H.out.go hb)
      clear hb
      go_wp2_with (first
          | ((with_reducible refine isStore ?_); refine stA H ?_; clear H; intro _ H)
          | ((with_reducible refine isAlloc ?_); refine alA H ?_; clear H; intro _ _ H))
      refine wp_region_U 7 11 [.p, .p, .p, .s] H (by kernel_rfl) (by kernel_rfl) (by kernel_rfl) (by decide) ?_
      simp only [List.take_succ_cons, List.take_zero, List.drop_succ_cons, List.drop_zero]
      repeat (first
          | ((with_reducible refine kLoad ?_); refine kldA H ?_))
      refine wpK_step (fun K hK => ?_)
      go_simp
      apply Exists.intro
      refine ⟨fun sx => ?_, hK _ ?_⟩
      · go_at_call 36
        exact Widen_any (j := 2 * (i + j + 1) + 8 * j + 17) (i := 2 * (j + k) + 5) (m := j) (some gxl) (some gxh) gxl gxh (some gyl) (some gyh) gyl gyh (some gtl) (some gth) gtl gth (some by_) (some sl) wl1 wh1 wl2 wh2 wl3 wh3 _ (by omega) GX GY GT Zby_ Zsl Fl1 Fh1 Fl2 Fh2 Fl3 Fh3 (H.out.tbx sx)
      clear hK K
      repeat (first
          | ((with_reducible refine kLoad ?_); refine kldA H ?_)
          | ((fail_if_success (with_reducible refine kCall ?_)); (with_reducible refine kCons ?_); refine wpK_step (fun K hK => ?_); go_simp; refine hK _ ?_; clear hK K))
      refine wpK_step (fun K hK => ?_)
      go_simp
      apply Exists.intro
      refine ⟨fun sx => ?_, hK _ ?_⟩
      · go_at_call 74
        exact Put_ok (i := 2 * (i + j + 1) + 8 * j + 17 + j + 1) (j := j) (k := 2 * (j + k) + 5 + j + 1) (some wl1) (some wh1) wl1 wh1 (some wl2) (some wh2) wl2 wh2 (some wl3) (some wh3) wl3 wh3 x2 y2 r2 tl th xl xh yl yh _ (by omega) W1 W2 W3 Zx2 Zy2 Zr2 G3 Etl Eth Exl Exh Eyl Eyh (H.out.tbx sx)
      clear hK K
      refine wpKeep_nil ?_
      refine wpL_P (by rfl) (by (first | exact wanted_none rfl | exact wanted_some rfl rfl)) (by intro W; first | (go_simp; rfl) | go_simp) ?_
      (simp only [Act.put, List.setIfInBounds_toArray, List.set_cons_succ, List.set_cons_zero])
      refine wpL_P (by rfl) (by (first | exact wanted_none rfl | exact wanted_some rfl rfl)) (by intro W; first | (go_simp; rfl) | go_simp) ?_
      (simp only [Act.put, List.setIfInBounds_toArray, List.set_cons_succ, List.set_cons_zero])
      refine wpL_P (by rfl) (by (first | exact wanted_none rfl | exact wanted_some rfl rfl)) (by intro W; first | (go_simp; rfl) | go_simp) ?_
      (simp only [Act.put, List.setIfInBounds_toArray, List.set_cons_succ, List.set_cons_zero])
      refine wpL_S (by rfl) rfl rfl rfl (by (first | exact rRat | exact rSpan | exact rPose | exact rFrame | exact rVec | exact rTurn | exact rBox)) (by rfl) (by rfl) (by (repeat (first | apply Upd.head | apply Upd.tail | assumption))) (by rfl) (by (simp only [List.drop, List.take, List.nil_append, List.cons_append]); rfl) (by exact Nat.le_of_ble_eq_true rfl) (by rfl) ?_
      refine wpL_nil ?_
      clear H
      intro _ H
      go_wp2_with (first
          | ((with_reducible refine isLoad ?_); refine ldA H ?_)
          | ((with_reducible refine isStore ?_); refine stA H ?_; clear H; intro _ H))
      replace H := Lib.hid H.out.drop.drop
      go_roundw
      case rel => exact .inr ⟨by go_num, H⟩
      case measure => simp [intOf]
    · go_wp2_with (first
          | go_skip
          | ((with_reducible refine isLoad ?_); refine ldA H ?_)
          | ((with_reducible refine isLoad ?_); refine ld1A H ?_)
          | ((with_reducible refine isStore ?_); refine stA H ?_; clear H; intro _ H)
          | ((with_reducible refine isStore ?_); refine st1A H ?_; clear H; intro _ H)
          | ((with_reducible refine isBox ?_); refine bxA H ?_; clear H; intro _ _ H)
          | ((with_reducible refine isAlloc ?_); refine alA H ?_; clear H; intro _ _ H))
      exact bodyPost_ret (results_Hv H Tryd.results34 (by (first | exact rRat | exact rSpan | exact rPose | exact rFrame | exact rVec | exact rTurn | exact rBox)) rfl (by (repeat (first | exact List.Mem.head _ | refine List.Mem.tail _ ?_ | assumption))) (by rfl) (by rfl)) rfl ⟨rfl, H.out.bel⟩
end Go.Proofs.YtolekonocbeekaaDoor

namespace Go.Proofs.YtolekonocbeekaaDoor
open Go.RowKit
set_option linter.unusedVariables false
set_option maxRecDepth 100000

set_option maxHeartbeats 4000000 in
theorem Drift_wide1 {i j k : Nat} (a1 b1 a2 b2 a3 b3 : Rat) (x : Option Rat) (y : Option Rat) (r : Option Rat) (x2 : Option Rat) (y2 : Option Rat) (r2 : Option Rat) (by_ sl : Rat) (c : Nat) (w : World) (hk : i ≤ 1010 ∧ k ≤ 1400 ∧ j ≤ 20) (A1 : Hid (Spn i (some a1) (some b1) a1 b1)) (A2 : Hid (Spn i (some a2) (some b2) a2 b2)) (A3 : Hid (Spn k (some a3) (some b3) a3 b3)) (Zx : Hid (SzO j x)) (Zy : Hid (SzO j y)) (Zr : Hid (SzO j r)) (Zx2 : Hid (SzO j x2)) (Zy2 : Hid (SzO j y2)) (Zr2 : Hid (SzO j r2)) (Zby_ : Hid (Sz j by_)) (hby_ : Hid (0 ≤ by_)) (Zsl : Hid (Sz j sl)) (hsl : Hid (0 ≤ sl)) (X : Hid (Blk w c 65 [.bool (sgO x), .string (nuO x), .string (deO x), .bool (sgO y), .string (nuO y), .string (deO y), .bool false, .bool (sgO r), .string (nuO r), .string (deO r), .bool (sgO x2), .string (nuO x2), .string (deO x2), .bool (sgO y2), .string (nuO y2), .string (deO y2), .bool false, .bool (sgO r2), .string (nuO r2), .string (deO r2)].toArray)) (G : Hid (tWide (-(valO r)) a3 b3 = true)) (hT : Tb w) :
    Calls Tryd.prog 34 #[.agg #[.bool (sgO (some a1)), .string (nuO (some a1)), .string (deO (some a1)), .bool (sgO (some b1)), .string (nuO (some b1)), .string (deO (some b1)), .bool (sgO (some a2)), .string (nuO (some a2)), .string (deO (some a2)), .bool (sgO (some b2)), .string (nuO (some b2)), .string (deO (some b2)), .bool (sgO (some a3)), .string (nuO (some a3)), .string (deO (some a3)), .bool (sgO (some b3)), .string (nuO (some b3)), .string (deO (some b3))], .slice (some ⟨c, 0, none⟩) 1 1, .agg #[.bool (sgO (some by_)), .string (nuO (some by_)), .string (deO (some by_))], .agg #[.bool (sgO (some sl)), .string (nuO (some sl)), .string (deO (some sl))]] w fun e w' => e = .returned (.tuple #[.agg #[.bool false, .string ⟨#[]⟩, .string ⟨#[]⟩, .bool false, .string ⟨#[]⟩, .string ⟨#[]⟩, .bool false, .string ⟨#[]⟩, .string ⟨#[]⟩, .bool false, .string ⟨#[]⟩, .string ⟨#[]⟩, .bool false, .string ⟨#[]⟩, .string ⟨#[]⟩, .bool false, .string ⟨#[]⟩, .string ⟨#[]⟩], .int .i64 18]) ∧ Below w.heap.size w w' := by
  have H := Lib.hid (Hp.start hT)
  clear hT
  have Sx : Hid (SmO x) := SzO.sm Zx (by omega)
  have Sy : Hid (SmO y) := SzO.sm Zy (by omega)
  have Sr : Hid (SmO r) := SzO.sm Zr (by omega)
  have Sx2 : Hid (SmO x2) := SzO.sm Zx2 (by omega)
  have Sy2 : Hid (SmO y2) := SzO.sm Zy2 (by omega)
  have Sr2 : Hid (SmO r2) := SzO.sm Zr2 (by omega)
  have Sby_ : Hid (SmO (some by_)) := Sz.o Zby_ (by omega)
  have Ssl : Hid (SmO (some sl)) := Sz.o Zsl (by omega)
  obtain ⟨o, Eo⟩ : ∃ z : Rat, Hid (((0 : Int) : Rat) = z) := ⟨_, rfl⟩
  have Zo : Hid (Sz 3 o) := szEq Eo (Sz.int (0) (by decide))
  have So : Hid (SmO (some o)) := Sz.o Zo (by omega)
  have Zo1 : Hid (Sz 3 o) := Zo
  have O1 : Hid (a1 - mx (valO (some o)) ((0 : Int) : Rat) = a1) := by have h := Eo.out; subst h; exact wid0L a1
  have Q1 : Hid (b1 + mx (valO (some o)) ((0 : Int) : Rat) = b1) := by have h := Eo.out; subst h; exact wid0H b1
  have O2 : Hid (a2 - mx (valO (some o)) ((0 : Int) : Rat) = a2) := by have h := Eo.out; subst h; exact wid0L a2
  have Q2 : Hid (b2 + mx (valO (some o)) ((0 : Int) : Rat) = b2) := by have h := Eo.out; subst h; exact wid0H b2
  have O3 : Hid (a3 - mx (valO (some o)) ((0 : Int) : Rat) = a3) := by have h := Eo.out; subst h; exact wid0L a3
  have Q3 : Hid (b3 + mx (valO (some o)) ((0 : Int) : Rat) = b3) := by have h := Eo.out; subst h; exact wid0H b3
  go_enter Tryd.func34, Tryd.ntmps34
  go_wp2_with (first
      | ((with_reducible refine isBox ?_); refine bxA H ?_; clear H; intro _ _ H)
      | ((with_reducible refine isAlloc ?_); refine alA H ?_; clear H; intro _ _ H))
  refine wp_region_F1 4 H (by kernel_rfl) (by kernel_rfl) rfl (by simp [Allocs, go_sem]; intro _ _; rfl) ?_
  simp only [List.take_succ_cons, List.take_zero, List.drop_succ_cons, List.drop_zero]
  repeat (first
      | ((with_reducible refine kLoad ?_); refine kldA H ?_))
  refine wpK_step (fun K hK => ?_)
  go_simp
  apply Exists.intro
  refine ⟨fun sx => ?_, hK _ ?_⟩
  · go_at_call 35
    exact ROf_any (0) o _ (by decide) (by decide) Eo (H.out.tbx sx)
  clear hK K
  refine wpK_step (fun K hK => ?_)
  go_simp
  apply Exists.intro
  refine ⟨fun sx => ?_, hK _ ?_⟩
  · go_at_call 35
    exact ROf_any (0) o _ (by decide) (by decide) Eo (H.out.tbx sx)
  clear hK K
  refine wpK_step (fun K hK => ?_)
  go_simp
  apply Exists.intro
  refine ⟨fun sx => ?_, hK _ ?_⟩
  · go_at_call 36
    exact Widen_any (j := i) (i := k) (m := 3) (some a1) (some b1) a1 b1 (some a2) (some b2) a2 b2 (some a3) (some b3) a3 b3 (some o) (some o) a1 b1 a2 b2 a3 b3 _ (by omega) A1 A2 A3 Zo1 Zo1 O1 Q1 O2 Q2 O3 Q3 (H.out.tbx sx)
  clear hK K
  refine wpKeep_nil ?_
  clear H
  intro _ _ H
  (simp only [Act.put, List.setIfInBounds_toArray, List.set_cons_succ, List.set_cons_zero])
  go_wp2_with (first
      | ((with_reducible refine isStore ?_); refine stA H ?_; clear H; intro _ H))
  rename_i g1 V1 g2 V2 g3 V3 g4 V4 g5 V5 V6 K7 hK7
  go_loopw [25] (fun i wr => (i = .int .i64 0 ∧ Hid (Hp w wr [(g5, 28, [.bool (sgO (some a1)), .string (nuO (some a1)), .string (deO (some a1)), .bool (sgO (some b1)), .string (nuO (some b1)), .string (deO (some b1)), .bool (sgO (some a2)), .string (nuO (some a2)), .string (deO (some a2)), .bool (sgO (some b2)), .string (nuO (some b2)), .string (deO (some b2)), .bool (sgO (some a3)), .string (nuO (some a3)), .string (deO (some a3)), .bool (sgO (some b3)), .string (nuO (some b3)), .string (deO (some b3))]), (g4, 28, [.bool false, .string ⟨#[]⟩, .string ⟨#[]⟩, .bool false, .string ⟨#[]⟩, .string ⟨#[]⟩, .bool false, .string ⟨#[]⟩, .string ⟨#[]⟩, .bool false, .string ⟨#[]⟩, .string ⟨#[]⟩, .bool false, .string ⟨#[]⟩, .string ⟨#[]⟩, .bool false, .string ⟨#[]⟩, .string ⟨#[]⟩]), (g3, 24, [.bool (sgO (some sl)), .string (nuO (some sl)), .string (deO (some sl))]), (g2, 24, [.bool (sgO (some by_)), .string (nuO (some by_)), .string (deO (some by_))]), (g1, 28, [.bool (sgO (some a1)), .string (nuO (some a1)), .string (deO (some a1)), .bool (sgO (some b1)), .string (nuO (some b1)), .string (deO (some b1)), .bool (sgO (some a2)), .string (nuO (some a2)), .string (deO (some a2)), .bool (sgO (some b2)), .string (nuO (some b2)), .string (deO (some b2)), .bool (sgO (some a3)), .string (nuO (some a3)), .string (deO (some a3)), .bool (sgO (some b3)), .string (nuO (some b3)), .string (deO (some b3))])]))) (fun i _ => 1 - (intOf i).toNat)
  case atStart => exact ⟨rfl, H⟩
  case round =>
    clear H
    obtain ⟨rfl, H⟩ := hrel
    go_wp2_with (first
        | ((with_reducible refine isLoad ?_); refine ldX H X ?_)
        | ((with_reducible refine isLoad ?_); refine ldA H ?_)
        | ((with_reducible refine isStore ?_); refine stA H ?_; clear H; intro _ H)
        | ((with_reducible refine isAlloc ?_); refine alA H ?_; clear H; intro _ _ H))
    refine (Grip_wide (i := i) (j := j) (k := k) (some a1) (some b1) a1 b1 (some a2) (some b2) a2 b2 (some a3) (some b3) a3 b3 x y r _ (by omega) A1 A2 A3 Zx Zy Zr G H.out.tb).mono ?_
    rintro _ _ ⟨rfl, hb⟩
    replace H := Lib.hid (H.out.go hb)
    clear hb
    go_wp2_with (first
        | ((with_reducible refine isStore ?_); refine stA H ?_; clear H; intro _ H)
        | ((with_reducible refine isAlloc ?_); refine alA H ?_; clear H; intro _ _ H))
    exact bodyPost_ret (results_Hv H Tryd.results34 (by (first | exact rRat | exact rSpan | exact rPose | exact rFrame | exact rVec | exact rTurn | exact rBox)) rfl (by (repeat (first | exact List.Mem.head _ | refine List.Mem.tail _ ?_ | assumption))) (by rfl) (by rfl)) rfl ⟨rfl, H.out.bel⟩

set_option maxHeartbeats 4000000 in
theorem Drift_wide2 {i j k : Nat} (a1 b1 a2 b2 a3 b3 : Rat) (x : Option Rat) (y : Option Rat) (r : Option Rat) (x2 : Option Rat) (y2 : Option Rat) (r2 : Option Rat) (by_ sl : Rat) (c : Nat) (w : World) (hk : i ≤ 1010 ∧ k ≤ 1400 ∧ j ≤ 20) (A1 : Hid (Spn i (some a1) (some b1) a1 b1)) (A2 : Hid (Spn i (some a2) (some b2) a2 b2)) (A3 : Hid (Spn k (some a3) (some b3) a3 b3)) (Zx : Hid (SzO j x)) (Zy : Hid (SzO j y)) (Zr : Hid (SzO j r)) (Zx2 : Hid (SzO j x2)) (Zy2 : Hid (SzO j y2)) (Zr2 : Hid (SzO j r2)) (Zby_ : Hid (Sz j by_)) (hby_ : Hid (0 ≤ by_)) (Zsl : Hid (Sz j sl)) (hsl : Hid (0 ≤ sl)) (X : Hid (Blk w c 65 [.bool (sgO x), .string (nuO x), .string (deO x), .bool (sgO y), .string (nuO y), .string (deO y), .bool false, .bool (sgO r), .string (nuO r), .string (deO r), .bool (sgO x2), .string (nuO x2), .string (deO x2), .bool (sgO y2), .string (nuO y2), .string (deO y2), .bool false, .bool (sgO r2), .string (nuO r2), .string (deO r2)].toArray)) (G : Hid (tWide (-(valO r)) a3 b3 = false)) (G2 : Hid (tWide (valO r2) (tvQ (-(valO r)) a3 - sl) (tvQ (-(valO r)) b3 + sl) = true)) (hT : Tb w) :
    Calls Tryd.prog 34 #[.agg #[.bool (sgO (some a1)), .string (nuO (some a1)), .string (deO (some a1)), .bool (sgO (some b1)), .string (nuO (some b1)), .string (deO (some b1)), .bool (sgO (some a2)), .string (nuO (some a2)), .string (deO (some a2)), .bool (sgO (some b2)), .string (nuO (some b2)), .string (deO (some b2)), .bool (sgO (some a3)), .string (nuO (some a3)), .string (deO (some a3)), .bool (sgO (some b3)), .string (nuO (some b3)), .string (deO (some b3))], .slice (some ⟨c, 0, none⟩) 1 1, .agg #[.bool (sgO (some by_)), .string (nuO (some by_)), .string (deO (some by_))], .agg #[.bool (sgO (some sl)), .string (nuO (some sl)), .string (deO (some sl))]] w fun e w' => e = .returned (.tuple #[.agg #[.bool false, .string ⟨#[]⟩, .string ⟨#[]⟩, .bool false, .string ⟨#[]⟩, .string ⟨#[]⟩, .bool false, .string ⟨#[]⟩, .string ⟨#[]⟩, .bool false, .string ⟨#[]⟩, .string ⟨#[]⟩, .bool false, .string ⟨#[]⟩, .string ⟨#[]⟩, .bool false, .string ⟨#[]⟩, .string ⟨#[]⟩], .int .i64 18]) ∧ Below w.heap.size w w' := by
  have H := Lib.hid (Hp.start hT)
  clear hT
  have Sx : Hid (SmO x) := SzO.sm Zx (by omega)
  have Sy : Hid (SmO y) := SzO.sm Zy (by omega)
  have Sr : Hid (SmO r) := SzO.sm Zr (by omega)
  have Sx2 : Hid (SmO x2) := SzO.sm Zx2 (by omega)
  have Sy2 : Hid (SmO y2) := SzO.sm Zy2 (by omega)
  have Sr2 : Hid (SmO r2) := SzO.sm Zr2 (by omega)
  have Sby_ : Hid (SmO (some by_)) := Sz.o Zby_ (by omega)
  have Ssl : Hid (SmO (some sl)) := Sz.o Zsl (by omega)
  obtain ⟨o, Eo⟩ : ∃ z : Rat, Hid (((0 : Int) : Rat) = z) := ⟨_, rfl⟩
  have Zo : Hid (Sz 3 o) := szEq Eo (Sz.int (0) (by decide))
  have So : Hid (SmO (some o)) := Sz.o Zo (by omega)
  have Zo1 : Hid (Sz 3 o) := Zo
  have O1 : Hid (a1 - mx (valO (some o)) ((0 : Int) : Rat) = a1) := by have h := Eo.out; subst h; exact wid0L a1
  have Q1 : Hid (b1 + mx (valO (some o)) ((0 : Int) : Rat) = b1) := by have h := Eo.out; subst h; exact wid0H b1
  have O2 : Hid (a2 - mx (valO (some o)) ((0 : Int) : Rat) = a2) := by have h := Eo.out; subst h; exact wid0L a2
  have Q2 : Hid (b2 + mx (valO (some o)) ((0 : Int) : Rat) = b2) := by have h := Eo.out; subst h; exact wid0H b2
  have O3 : Hid (a3 - mx (valO (some o)) ((0 : Int) : Rat) = a3) := by have h := Eo.out; subst h; exact wid0L a3
  have Q3 : Hid (b3 + mx (valO (some o)) ((0 : Int) : Rat) = b3) := by have h := Eo.out; subst h; exact wid0H b3
  obtain ⟨gxl, Egxl⟩ : ∃ z : Rat, Hid ((gripP ⟨valO x, valO y, valO r⟩ ⟨a1, b1, a2, b2, a3, b3⟩).a1 = z) := ⟨_, rfl⟩
  obtain ⟨gxh, Egxh⟩ : ∃ z : Rat, Hid ((gripP ⟨valO x, valO y, valO r⟩ ⟨a1, b1, a2, b2, a3, b3⟩).b1 = z) := ⟨_, rfl⟩
  obtain ⟨gyl, Egyl⟩ : ∃ z : Rat, Hid ((gripP ⟨valO x, valO y, valO r⟩ ⟨a1, b1, a2, b2, a3, b3⟩).a2 = z) := ⟨_, rfl⟩
  obtain ⟨gyh, Egyh⟩ : ∃ z : Rat, Hid ((gripP ⟨valO x, valO y, valO r⟩ ⟨a1, b1, a2, b2, a3, b3⟩).b2 = z) := ⟨_, rfl⟩
  obtain ⟨gtl, Egtl⟩ : ∃ z : Rat, Hid ((gripP ⟨valO x, valO y, valO r⟩ ⟨a1, b1, a2, b2, a3, b3⟩).a3 = z) := ⟨_, rfl⟩
  obtain ⟨gth, Egth⟩ : ∃ z : Rat, Hid ((gripP ⟨valO x, valO y, valO r⟩ ⟨a1, b1, a2, b2, a3, b3⟩).b3 = z) := ⟨_, rfl⟩
  have GX : Hid (Spn (2 * (i + j + 1) + 8 * j + 17) (some gxl) (some gxh) gxl gxh) := by have h1 := Egxl.out; have h2 := Egxh.out; rw [← h1, ← h2]; exact Spn.rx (Spn.sub A1.out (Spn.of Zx (by omega)) rfl rfl (by omega)) (Spn.sub A2.out (Spn.of Zy (by omega)) rfl rfl (by omega)) (Sz.neg Zr) (by omega)
  have GY : Hid (Spn (2 * (i + j + 1) + 8 * j + 17) (some gyl) (some gyh) gyl gyh) := by have h1 := Egyl.out; have h2 := Egyh.out; rw [← h1, ← h2]; exact Spn.ry (Spn.sub A1.out (Spn.of Zx (by omega)) rfl rfl (by omega)) (Spn.sub A2.out (Spn.of Zy (by omega)) rfl rfl (by omega)) (Sz.neg Zr) (by omega)
  have GT : Hid (Spn (2 * (j + k) + 5) (some gtl) (some gth) gtl gth) := by have h1 := Egtl.out; have h2 := Egth.out; rw [← h1, ← h2]; exact Spn.tv A3.out (Sz.neg Zr) G.out (by omega)
  obtain ⟨wl1, Ewl1⟩ : ∃ z : Rat, Hid (gxl - by_ = z) := ⟨_, rfl⟩
  obtain ⟨wh1, Ewh1⟩ : ∃ z : Rat, Hid (gxh + by_ = z) := ⟨_, rfl⟩
  have Fl1 : Hid (gxl - mx (valO (some by_)) ((0 : Int) : Rat) = wl1) := by unfold Hid; rw [show valO (some by_) = by_ from rfl, mx_zero hby_]; exact Ewl1
  have Fh1 : Hid (gxh + mx (valO (some by_)) ((0 : Int) : Rat) = wh1) := by unfold Hid; rw [show valO (some by_) = by_ from rfl, mx_zero hby_]; exact Ewh1
  obtain ⟨wl2, Ewl2⟩ : ∃ z : Rat, Hid (gyl - by_ = z) := ⟨_, rfl⟩
  obtain ⟨wh2, Ewh2⟩ : ∃ z : Rat, Hid (gyh + by_ = z) := ⟨_, rfl⟩
  have Fl2 : Hid (gyl - mx (valO (some by_)) ((0 : Int) : Rat) = wl2) := by unfold Hid; rw [show valO (some by_) = by_ from rfl, mx_zero hby_]; exact Ewl2
  have Fh2 : Hid (gyh + mx (valO (some by_)) ((0 : Int) : Rat) = wh2) := by unfold Hid; rw [show valO (some by_) = by_ from rfl, mx_zero hby_]; exact Ewh2
  obtain ⟨wl3, Ewl3⟩ : ∃ z : Rat, Hid (gtl - sl = z) := ⟨_, rfl⟩
  obtain ⟨wh3, Ewh3⟩ : ∃ z : Rat, Hid (gth + sl = z) := ⟨_, rfl⟩
  have Fl3 : Hid (gtl - mx (valO (some sl)) ((0 : Int) : Rat) = wl3) := by unfold Hid; rw [show valO (some sl) = sl from rfl, mx_zero hsl]; exact Ewl3
  have Fh3 : Hid (gth + mx (valO (some sl)) ((0 : Int) : Rat) = wh3) := by unfold Hid; rw [show valO (some sl) = sl from rfl, mx_zero hsl]; exact Ewh3
  have W1 : Hid (Spn ((2 * (i + j + 1) + 8 * j + 17) + j + 1) (some wl1) (some wh1) wl1 wh1) := by have h1 := Ewl1.out; have h2 := Ewh1.out; rw [← h1, ← h2]; exact Spn.wide GX.out Zby_ hby_.out (by omega)
  have W2 : Hid (Spn ((2 * (i + j + 1) + 8 * j + 17) + j + 1) (some wl2) (some wh2) wl2 wh2) := by have h1 := Ewl2.out; have h2 := Ewh2.out; rw [← h1, ← h2]; exact Spn.wide GY.out Zby_ hby_.out (by omega)
  have W3 : Hid (Spn ((2 * (j + k) + 5) + j + 1) (some wl3) (some wh3) wl3 wh3) := by have h1 := Ewl3.out; have h2 := Ewh3.out; rw [← h1, ← h2]; exact Spn.wide GT.out Zsl hsl.out (by omega)
  have G3 : Hid (tWide (valO r2) wl3 wh3 = true) := by have h1 := Ewl3.out; have h2 := Ewh3.out; have h3 := Egtl.out; have h4 := Egth.out; rw [← h1, ← h2, ← h3, ← h4]; exact G2.out
  go_enter Tryd.func34, Tryd.ntmps34
  go_wp2_with (first
      | ((with_reducible refine isBox ?_); refine bxA H ?_; clear H; intro _ _ H)
      | ((with_reducible refine isAlloc ?_); refine alA H ?_; clear H; intro _ _ H))
  refine wp_region_F1 4 H (by kernel_rfl) (by kernel_rfl) rfl (by simp [Allocs, go_sem]; intro _ _; rfl) ?_
  simp only [List.take_succ_cons, List.take_zero, List.drop_succ_cons, List.drop_zero]
  repeat (first
      | ((with_reducible refine kLoad ?_); refine kldA H ?_))
  refine wpK_step (fun K hK => ?_)
  go_simp
  apply Exists.intro
  refine ⟨fun sx => ?_, hK _ ?_⟩
  · go_at_call 35
    exact ROf_any (0) o _ (by decide) (by decide) Eo (H.out.tbx sx)
  clear hK K
  refine wpK_step (fun K hK => ?_)
  go_simp
  apply Exists.intro
  refine ⟨fun sx => ?_, hK _ ?_⟩
  · go_at_call 35
    exact ROf_any (0) o _ (by decide) (by decide) Eo (H.out.tbx sx)
  clear hK K
  refine wpK_step (fun K hK => ?_)
  go_simp
  apply Exists.intro
  refine ⟨fun sx => ?_, hK _ ?_⟩
  · go_at_call 36
    exact Widen_any (j := i) (i := k) (m := 3) (some a1) (some b1) a1 b1 (some a2) (some b2) a2 b2 (some a3) (some b3) a3 b3 (some o) (some o) a1 b1 a2 b2 a3 b3 _ (by omega) A1 A2 A3 Zo1 Zo1 O1 Q1 O2 Q2 O3 Q3 (H.out.tbx sx)
  clear hK K
  refine wpKeep_nil ?_
  clear H
  intro _ _ H
  (simp only [Act.put, List.setIfInBounds_toArray, List.set_cons_succ, List.set_cons_zero])
  go_wp2_with (first
      | ((with_reducible refine isStore ?_); refine stA H ?_; clear H; intro _ H))
  rename_i g1 V1 g2 V2 g3 V3 g4 V4 g5 V5 V6 K7 hK7
  go_loopw [25] (fun i wr => (i = .int .i64 0 ∧ Hid (Hp w wr [(g5, 28, [.bool (sgO (some a1)), .string (nuO (some a1)), .string (deO (some a1)), .bool (sgO (some b1)), .string (nuO (some b1)), .string (deO (some b1)), .bool (sgO (some a2)), .string (nuO (some a2)), .string (deO (some a2)), .bool (sgO (some b2)), .string (nuO (some b2)), .string (deO (some b2)), .bool (sgO (some a3)), .string (nuO (some a3)), .string (deO (some a3)), .bool (sgO (some b3)), .string (nuO (some b3)), .string (deO (some b3))]), (g4, 28, [.bool false, .string ⟨#[]⟩, .string ⟨#[]⟩, .bool false, .string ⟨#[]⟩, .string ⟨#[]⟩, .bool false, .string ⟨#[]⟩, .string ⟨#[]⟩, .bool false, .string ⟨#[]⟩, .string ⟨#[]⟩, .bool false, .string ⟨#[]⟩, .string ⟨#[]⟩, .bool false, .string ⟨#[]⟩, .string ⟨#[]⟩]), (g3, 24, [.bool (sgO (some sl)), .string (nuO (some sl)), .string (deO (some sl))]), (g2, 24, [.bool (sgO (some by_)), .string (nuO (some by_)), .string (deO (some by_))]), (g1, 28, [.bool (sgO (some a1)), .string (nuO (some a1)), .string (deO (some a1)), .bool (sgO (some b1)), .string (nuO (some b1)), .string (deO (some b1)), .bool (sgO (some a2)), .string (nuO (some a2)), .string (deO (some a2)), .bool (sgO (some b2)), .string (nuO (some b2)), .string (deO (some b2)), .bool (sgO (some a3)), .string (nuO (some a3)), .string (deO (some a3)), .bool (sgO (some b3)), .string (nuO (some b3)), .string (deO (some b3))])]))) (fun i _ => 1 - (intOf i).toNat)
  case atStart => exact ⟨rfl, H⟩
  case round =>
    clear H
    obtain ⟨rfl, H⟩ := hrel
    go_wp2_with (first
        | ((with_reducible refine isLoad ?_); refine ldX H X ?_)
        | ((with_reducible refine isLoad ?_); refine ldA H ?_)
        | ((with_reducible refine isStore ?_); refine stA H ?_; clear H; intro _ H)
        | ((with_reducible refine isAlloc ?_); refine alA H ?_; clear H; intro _ _ H))
    refine (Grip_ok (i := i) (j := j) (k := k) (some a1) (some b1) a1 b1 (some a2) (some b2) a2 b2 (some a3) (some b3) a3 b3 x y r gtl gth gxl gxh gyl gyh _ (by omega) A1 A2 A3 Zx Zy Zr G Egtl Egth Egxl Egxh Egyl Egyh H.out.tb).mono ?_
    rintro _ _ ⟨rfl, hb⟩
    replace H := Lib.hid (H.out.go hb)
    clear hb
    go_wp2_with (first
        | ((with_reducible refine isStore ?_); refine stA H ?_; clear H; intro _ H)
        | ((with_reducible refine isAlloc ?_); refine alA H ?_; clear H; intro _ _ H))
    refine wp_region_U 7 11 [.p, .p, .p, .s] H (by kernel_rfl) (by kernel_rfl) (by kernel_rfl) (by decide) ?_
    simp only [List.take_succ_cons, List.take_zero, List.drop_succ_cons, List.drop_zero]
    repeat (first
        | ((with_reducible refine kLoad ?_); refine kldA H ?_))
    refine wpK_step (fun K hK => ?_)
    go_simp
    apply Exists.intro
    refine ⟨fun sx => ?_, hK _ ?_⟩
    · go_at_call 36
      exact Widen_any (j := 2 * (i + j + 1) + 8 * j + 17) (i := 2 * (j + k) + 5) (m := j) (some gxl) (some gxh) gxl gxh (some gyl) (some gyh) gyl gyh (some gtl) (some gth) gtl gth (some by_) (some sl) wl1 wh1 wl2 wh2 wl3 wh3 _ (by omega) GX GY GT Zby_ Zsl Fl1 Fh1 Fl2 Fh2 Fl3 Fh3 (H.out.tbx sx)
    clear hK K
    repeat (first
        | ((with_reducible refine kLoad ?_); refine kldA H ?_)
        | ((fail_if_success (with_reducible refine kCall ?_)); (with_reducible refine kCons ?_); refine wpK_step (fun K hK => ?_); go_simp; refine hK _ ?_; clear hK K))
    refine wpK_step (fun K hK => ?_)
    go_simp
    apply Exists.intro
    refine ⟨fun sx => ?_, hK _ ?_⟩
    · go_at_call 74
      exact Put_wide (i := 2 * (i + j + 1) + 8 * j + 17 + j + 1) (j := j) (k := 2 * (j + k) + 5 + j + 1) (some wl1) (some wh1) wl1 wh1 (some wl2) (some wh2) wl2 wh2 (some wl3) (some wh3) wl3 wh3 x2 y2 r2 _ (by omega) W1 W2 W3 Zx2 Zy2 Zr2 G3 (H.out.tbx sx)
    clear hK K
    refine wpKeep_nil ?_
    refine wpL_P (by rfl) (by (first | exact wanted_none rfl | exact wanted_some rfl rfl)) (by intro W; first | (go_simp; rfl) | go_simp) ?_
    (simp only [Act.put, List.setIfInBounds_toArray, List.set_cons_succ, List.set_cons_zero])
    refine wpL_P (by rfl) (by (first | exact wanted_none rfl | exact wanted_some rfl rfl)) (by intro W; first | (go_simp; rfl) | go_simp) ?_
    (simp only [Act.put, List.setIfInBounds_toArray, List.set_cons_succ, List.set_cons_zero])
    refine wpL_P (by rfl) (by (first | exact wanted_none rfl | exact wanted_some rfl rfl)) (by intro W; first | (go_simp; rfl) | go_simp) ?_
    (simp only [Act.put, List.setIfInBounds_toArray, List.set_cons_succ, List.set_cons_zero])
    refine wpL_S (by rfl) rfl rfl rfl (by (first | exact rRat | exact rSpan | exact rPose | exact rFrame | exact rVec | exact rTurn | exact rBox)) (by rfl) (by rfl) (by (repeat (first | apply Upd.head | apply Upd.tail | assumption))) (by rfl) (by (simp only [List.drop, List.take, List.nil_append, List.cons_append]); rfl) (by exact Nat.le_of_ble_eq_true rfl) (by rfl) ?_
    refine wpL_nil ?_
    clear H
    intro _ H
    go_wp2_with (first
        | ((with_reducible refine isStore ?_); refine stA H ?_; clear H; intro _ H))
    exact bodyPost_ret (results_Hv H Tryd.results34 (by (first | exact rRat | exact rSpan | exact rPose | exact rFrame | exact rVec | exact rTurn | exact rBox)) rfl (by (repeat (first | exact List.Mem.head _ | refine List.Mem.tail _ ?_ | assumption))) (by rfl) (by rfl)) rfl ⟨rfl, H.out.bel⟩
end Go.Proofs.YtolekonocbeekaaDoor
