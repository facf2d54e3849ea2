/- see.wide. Printed by gen/spech2.py. · see.Widen. Printed by gen/spech2.py. · see.Look, where something is left. Printed by gen/spech2.py. · gantry/span.Add. Printed by gen/spech2.py. · span.Mul. Printed by gen/spech2.py. · gantry/span.Sub. Printed by gen/spech2.py. · gantry/turn.Of. Printed by gen/spech.py. · frame.Zero. Printed by gen/spech.py. · gantry/turn.fit. Printed by gen/spech.py. · turn.Back. Printed by gen/spech.py. · gantry/turn.Cos. Printed by gen/spech.py. · gantry/turn.Sin. Printed by gen/spech.py. · carry.rotate. Printed by gen/spech2.py. · carry.Grip. Printed by gen/spech2.py. · turn.Then. Printed by gen/spech2.py. · vec.Add. Printed by gen/spech2.py. · vec.Sub. Printed by gen/spech2.py. · vec.Turn. Printed by gen/spech2.py. · frame.Back. Printed by gen/spech2.py. · frame.Put. Printed by gen/spech2.py. · frame.Then. Printed by gen/spech2.py. · Turns and boxes that are turned: their order and their sizes: no walk. Printed by gen/spech2.py. · carry.Put. Printed by gen/spech2.py. · Poses and frames as records, what carries do to them; rows of slots and ways; loads of a block that is not the call's own. Printed by gen/spech2.py. · carry.Carry. Printed by gen/spech2.py. · carry.Drift over one way. Printed by gen/spech2.py. · carry.Drift over one way, where it is too wide. Printed by gen/spech2.py. · What carries do to points, and what they do to bounds: no walk. Printed by gen/geol.py. · What the laws of see and carry need besides: no walk. Printed by gen/lawr6b.py. · What TopBounds needs besides: no walk. Printed by gen/topb.py. -/
import Derived.Test.YtolekonocbeekaaGreatDoorMk16
import Derived.Test.YtolekonocbeekaaGreatDoorMk5
namespace Go.Proofs.YtolekonocbeekaaGreatDoor
open Go.RowKit
set_option linter.unusedVariables false
set_option maxRecDepth 100000

set_option maxHeartbeats 4000000 in
theorem wide_any {j m : Nat} (a b : Option Rat) (p q : Rat) (r : Option Rat) (u : Rat) (v : Rat) (w : World) (hk : j + m ≤ 9000) (A : Hid (Spn j a b p q)) (Zr : Hid (SzO m r)) (Fu : Hid (p - mx (valO r) ((0 : Int) : Rat) = u)) (Fv : Hid (q + mx (valO r) ((0 : Int) : Rat) = v)) (hT : Tb w) :
    Calls Tryz.prog 55 #[.agg #[.bool (sgO a), .string (nuO a), .string (deO a), .bool (sgO b), .string (nuO b), .string (deO b)], .agg #[.bool (sgO r), .string (nuO r), .string (deO r)]] w fun e w' => e = .returned (.agg #[.bool (sgO (some u)), .string (nuO (some u)), .string (deO (some u)), .bool (sgO (some v)), .string (nuO (some v)), .string (deO (some v))]) ∧ Below w.heap.size w w' := by
  have H := Lib.hid (Hp.start hT)
  clear hT
  have Zp : Hid (Sz j p) := A.out.zp
  have Sp : Hid (SmO (some p)) := Sz.o Zp (by omega)
  have Zq : Hid (Sz j q) := A.out.zq
  have Sq : Hid (SmO (some q)) := Sz.o Zq (by omega)
  have Sr : Hid (SmO r) := SzO.sm Zr (by omega)
  obtain ⟨o, Eo⟩ : ∃ z : Rat, Hid (((0 : Int) : Rat) = z) := ⟨_, rfl⟩
  have Zo : Hid (Sz 3 o) := szEq Eo (Sz.int (0) (by decide))
  have So : Hid (SmO (some o)) := Sz.o Zo (by omega)
  obtain ⟨y, Ey⟩ : ∃ z : Rat, Hid (mx (valO r) ((0 : Int) : Rat) = z) := ⟨_, rfl⟩
  have Zy : Hid (Sz (max m 3) y) := szEq Ey (szmx (Sz.mono Zr (Nat.le_max_left m 3)) (Sz.mono (Sz.int 0 (by decide)) (Nat.le_max_right m 3)))
  have Sy : Hid (SmO (some y)) := Sz.o Zy (by omega)
  have Ey2 : Hid (mx (valO r) (valO (some o)) = y) := by have h := Ey.out; have h2 := Eo.out; subst h2; exact h
  have Eu : Hid (p - y = u) := by have h0 := Fu.out; have h1 := Eo.out; have h2 := Ey.out; subst_vars; rfl
  have Zu : Hid (Sz (j + (max m 3) + 1) u) := szEq Eu (Sz.sub Zp Zy)
  have Su : Hid (SmO (some u)) := Sz.o Zu (by omega)
  have Ev : Hid (q + y = v) := by have h0 := Fv.out; have h1 := Eo.out; have h2 := Ey.out; subst_vars; rfl
  have Zv : Hid (Sz (j + (max m 3) + 1) v) := szEq Ev (Sz.add Zq Zy)
  have Sv : Hid (SmO (some v)) := Sz.o Zv (by omega)
  go_enter Tryz.func55, Tryz.ntmps55
  go_wp2_with (first
      | ((with_reducible refine isBox ?_); refine bxA H ?_; clear H; intro _ _ H)
      | ((with_reducible refine isAlloc ?_); refine alA H ?_; clear H; intro _ _ H))
  refine wp_region_T 5 H (by kernel_rfl) (by kernel_rfl) ?_
  simp only [List.take_succ_cons, List.take_zero, List.drop_succ_cons, List.drop_zero]
  repeat (first
      | ((with_reducible refine kLoad ?_); refine kldA H ?_))
  refine wpK_step (fun K hK => ?_)
  go_simp
  apply Exists.intro
  refine ⟨fun sx => ?_, hK _ ?_⟩
  · go_at_call 74
    exact norm_any a b p q _ A.out.sa A.out.sb A.out.n (H.out.tbx sx)
  clear hK K
  repeat (first
      | ((with_reducible refine kLoad ?_); refine kldA H ?_))
  refine wpK_step (fun K hK => ?_)
  go_simp
  apply Exists.intro
  refine ⟨fun sx => ?_, hK _ ?_⟩
  · go_at_call 14
    exact ROf_any (0) o _ (by decide) (by decide) Eo (H.out.tbx sx)
  clear hK K
  refine wpK_step (fun K hK => ?_)
  go_simp
  apply Exists.intro
  refine ⟨fun sx => ?_, hK _ ?_⟩
  · go_at_call 82
    exact RMax_any r (some o) y _ Sr So Ey2 (H.out.tbx sx)
  clear hK K
  refine wpKeep_nil ?_
  clear H
  intro _ H
  go_wp2_with (first
      | ((with_reducible refine isStore ?_); refine stA H ?_; clear H; intro _ H))
  refine wp_region_T 9 H (by kernel_rfl) (by kernel_rfl) ?_
  simp only [List.take_succ_cons, List.take_zero, List.drop_succ_cons, List.drop_zero]
  repeat (first
      | ((with_reducible refine kLoad ?_); refine kldA H ?_)
      | ((fail_if_success (with_reducible refine kCall ?_)); (with_reducible refine kCons ?_); refine wpK_step (fun K hK => ?_); go_simp; refine hK _ ?_; clear hK K))
  refine wpK_step (fun K hK => ?_)
  go_simp
  apply Exists.intro
  refine ⟨fun sx => ?_, hK _ ?_⟩
  · go_at_call 45
    exact RSub_any (some p) (some y) u _ Sp Sy Eu (H.out.tbx sx)
  clear hK K
  repeat (first
      | ((with_reducible refine kLoad ?_); refine kldA H ?_)
      | ((fail_if_success (with_reducible refine kCall ?_)); (with_reducible refine kCons ?_); refine wpK_step (fun K hK => ?_); go_simp; refine hK _ ?_; clear hK K))
  refine wpK_step (fun K hK => ?_)
  go_simp
  apply Exists.intro
  refine ⟨fun sx => ?_, hK _ ?_⟩
  · go_at_call 17
    exact RAdd_any (some q) (some y) v _ Sq Sy Ev (H.out.tbx sx)
  clear hK K
  repeat (first
      | ((fail_if_success (with_reducible refine kCall ?_)); (with_reducible refine kCons ?_); refine wpK_step (fun K hK => ?_); go_simp; refine hK _ ?_; clear hK K))
  refine wpKeep_nil ?_
  clear H
  intro _ H
  go_wp2_with (first
      | ((with_reducible refine isStore ?_); refine stA H ?_; clear H; intro _ H))
  exact bodyPost_ret (results_H H Tryz.results55 (by (first | exact rRat | exact rSpan | exact rPose | exact rFrame | exact rVec | exact rTurn | exact rBox)) rfl (by (repeat (first | exact List.Mem.head _ | refine List.Mem.tail _ ?_ | assumption))) (by rfl)) rfl ⟨rfl, H.out.bel⟩
end Go.Proofs.YtolekonocbeekaaGreatDoor

namespace Go.Proofs.YtolekonocbeekaaGreatDoor
open Go.RowKit
set_option linter.unusedVariables false
set_option maxRecDepth 100000

set_option maxHeartbeats 4000000 in
theorem Widen_any {j i m : Nat} (a1 b1 : Option Rat) (p1 q1 : Rat) (a2 b2 : Option Rat) (p2 q2 : Rat) (a3 b3 : Option Rat) (p3 q3 : Rat) (r : Option Rat) (t : Option Rat) (u1 v1 : Rat) (u2 v2 : Rat) (u3 v3 : Rat) (w : World) (hk : j + m ≤ 9000 ∧ i + m ≤ 9000) (A1 : Hid (Spn j a1 b1 p1 q1)) (A2 : Hid (Spn j a2 b2 p2 q2)) (A3 : Hid (Spn i a3 b3 p3 q3)) (Zr : Hid (SzO m r)) (Zt : Hid (SzO m t)) (Eu1 : Hid (p1 - mx (valO r) ((0 : Int) : Rat) = u1)) (Ev1 : Hid (q1 + mx (valO r) ((0 : Int) : Rat) = v1)) (Eu2 : Hid (p2 - mx (valO r) ((0 : Int) : Rat) = u2)) (Ev2 : Hid (q2 + mx (valO r) ((0 : Int) : Rat) = v2)) (Eu3 : Hid (p3 - mx (valO t) ((0 : Int) : Rat) = u3)) (Ev3 : Hid (q3 + mx (valO t) ((0 : Int) : Rat) = v3)) (hT : Tb w) :
    Calls Tryz.prog 28 #[.agg #[.bool (sgO a1), .string (nuO a1), .string (deO a1), .bool (sgO b1), .string (nuO b1), .string (deO b1), .bool (sgO a2), .string (nuO a2), .string (deO a2), .bool (sgO b2), .string (nuO b2), .string (deO b2), .bool (sgO a3), .string (nuO a3), .string (deO a3), .bool (sgO b3), .string (nuO b3), .string (deO b3)], .agg #[.bool (sgO r), .string (nuO r), .string (deO r)], .agg #[.bool (sgO t), .string (nuO t), .string (deO t)]] w fun e w' => e = .returned (.agg #[.bool (sgO (some u1)), .string (nuO (some u1)), .string (deO (some u1)), .bool (sgO (some v1)), .string (nuO (some v1)), .string (deO (some v1)), .bool (sgO (some u2)), .string (nuO (some u2)), .string (deO (some u2)), .bool (sgO (some v2)), .string (nuO (some v2)), .string (deO (some v2)), .bool (sgO (some u3)), .string (nuO (some u3)), .string (deO (some u3)), .bool (sgO (some v3)), .string (nuO (some v3)), .string (deO (some v3))]) ∧ Below w.heap.size w w' := by
  have H := Lib.hid (Hp.start hT)
  clear hT
  have Zp1 : Hid (Sz j p1) := A1.out.zp
  have Sp1 : Hid (SmO (some p1)) := Sz.o Zp1 (by omega)
  have Zq1 : Hid (Sz j q1) := A1.out.zq
  have Sq1 : Hid (SmO (some q1)) := Sz.o Zq1 (by omega)
  have Zp2 : Hid (Sz j p2) := A2.out.zp
  have Sp2 : Hid (SmO (some p2)) := Sz.o Zp2 (by omega)
  have Zq2 : Hid (Sz j q2) := A2.out.zq
  have Sq2 : Hid (SmO (some q2)) := Sz.o Zq2 (by omega)
  have Zp3 : Hid (Sz i p3) := A3.out.zp
  have Sp3 : Hid (SmO (some p3)) := Sz.o Zp3 (by omega)
  have Zq3 : Hid (Sz i q3) := A3.out.zq
  have Sq3 : Hid (SmO (some q3)) := Sz.o Zq3 (by omega)
  have Sr : Hid (SmO r) := SzO.sm Zr (by omega)
  have St : Hid (SmO t) := SzO.sm Zt (by omega)
  go_enter Tryz.func28, Tryz.ntmps28
  go_wp2_with (first
      | ((with_reducible refine isBox ?_); refine bxA H ?_; clear H; intro _ _ H)
      | ((with_reducible refine isAlloc ?_); refine alA H ?_; clear H; intro _ _ H))
  refine wp_region_T 13 H (by kernel_rfl) (by kernel_rfl) ?_
  simp only [List.take_succ_cons, List.take_zero, List.drop_succ_cons, List.drop_zero]
  repeat (first
      | ((with_reducible refine kLoad ?_); refine kldA H ?_)
      | ((fail_if_success (with_reducible refine kCall ?_)); (with_reducible refine kCons ?_); refine wpK_step (fun K hK => ?_); go_simp; refine hK _ ?_; clear hK K))
  refine wpK_step (fun K hK => ?_)
  go_simp
  apply Exists.intro
  refine ⟨fun sx => ?_, hK _ ?_⟩
  · go_at_call 55
    exact wide_any a1 b1 p1 q1 r u1 v1 _ (by omega) A1 Zr Eu1 Ev1 (H.out.tbx sx)
  clear hK K
  repeat (first
      | ((with_reducible refine kLoad ?_); refine kldA H ?_)
      | ((fail_if_success (with_reducible refine kCall ?_)); (with_reducible refine kCons ?_); refine wpK_step (fun K hK => ?_); go_simp; refine hK _ ?_; clear hK K))
  refine wpK_step (fun K hK => ?_)
  go_simp
  apply Exists.intro
  refine ⟨fun sx => ?_, hK _ ?_⟩
  · go_at_call 55
    exact wide_any a2 b2 p2 q2 r u2 v2 _ (by omega) A2 Zr Eu2 Ev2 (H.out.tbx sx)
  clear hK K
  repeat (first
      | ((with_reducible refine kLoad ?_); refine kldA H ?_)
      | ((fail_if_success (with_reducible refine kCall ?_)); (with_reducible refine kCons ?_); refine wpK_step (fun K hK => ?_); go_simp; refine hK _ ?_; clear hK K))
  refine wpK_step (fun K hK => ?_)
  go_simp
  apply Exists.intro
  refine ⟨fun sx => ?_, hK _ ?_⟩
  · go_at_call 55
    exact wide_any a3 b3 p3 q3 t u3 v3 _ (by omega) A3 Zt Eu3 Ev3 (H.out.tbx sx)
  clear hK K
  repeat (first
      | ((fail_if_success (with_reducible refine kCall ?_)); (with_reducible refine kCons ?_); refine wpK_step (fun K hK => ?_); go_simp; refine hK _ ?_; clear hK K))
  refine wpKeep_nil ?_
  clear H
  intro _ H
  go_wp2_with (first
      | ((with_reducible refine isStore ?_); refine stA H ?_; clear H; intro _ H))
  exact bodyPost_ret (results_H H Tryz.results28 (by (first | exact rRat | exact rSpan | exact rPose | exact rFrame | exact rVec | exact rTurn | exact rBox)) rfl (by (repeat (first | exact List.Mem.head _ | refine List.Mem.tail _ ?_ | assumption))) (by rfl)) rfl ⟨rfl, H.out.bel⟩
end Go.Proofs.YtolekonocbeekaaGreatDoor

namespace Go.Proofs.YtolekonocbeekaaGreatDoor
open Go.RowKit
set_option linter.unusedVariables false
set_option maxRecDepth 100000

theorem mx_zero {r : Rat} (h : Hid (0 ≤ r)) : mx r ((0 : Int) : Rat) = r := by unfold mx; rw [if_pos (show ((0 : Int) : Rat) ≤ r from h.out)]
theorem sub_le_add {x r : Rat} (h : 0 ≤ r) : x - r ≤ x + r := by grind
set_option maxHeartbeats 4000000 in
theorem Look_any {k m : Nat} (a1 b1 a2 b2 a3 b3 x y t r s : Rat) (u1 v1 u2 v2 u3 v3 : Rat) (w : World) (hk : k + m ≤ 8000) (P : Hid (PoseF k a1 b1 a2 b2 a3 b3)) (Zx : Hid (Sz k x)) (Zy : Hid (Sz k y)) (Zt : Hid (Sz k t)) (Zr : Hid (Sz m r)) (Zs : Hid (Sz m s)) (hr : Hid (0 ≤ r)) (hs : Hid (0 ≤ s)) (E1 : Hid (mx a1 (x - r) = u1)) (E2 : Hid (mn b1 (x + r) = v1)) (E3 : Hid (mx a2 (y - r) = u2)) (E4 : Hid (mn b2 (y + r) = v2)) (E5 : Hid (mx a3 (t - s) = u3)) (E6 : Hid (mn b3 (t + s) = v3)) (U : Hid (PoseF (k + m + 1) u1 v1 u2 v2 u3 v3)) (hT : Tb w) :
    Calls Tryz.prog 19 #[.agg #[.bool (sgO (some a1)), .string (nuO (some a1)), .string (deO (some a1)), .bool (sgO (some b1)), .string (nuO (some b1)), .string (deO (some b1)), .bool (sgO (some a2)), .string (nuO (some a2)), .string (deO (some a2)), .bool (sgO (some b2)), .string (nuO (some b2)), .string (deO (some b2)), .bool (sgO (some a3)), .string (nuO (some a3)), .string (deO (some a3)), .bool (sgO (some b3)), .string (nuO (some b3)), .string (deO (some b3))], .agg #[.bool (sgO (some x)), .string (nuO (some x)), .string (deO (some x)), .bool (sgO (some y)), .string (nuO (some y)), .string (deO (some y)), .bool false, .bool (sgO (some t)), .string (nuO (some t)), .string (deO (some t))], .agg #[.bool (sgO (some r)), .string (nuO (some r)), .string (deO (some r))], .agg #[.bool (sgO (some s)), .string (nuO (some s)), .string (deO (some s))]] w fun e w' => e = .returned (.tuple #[.agg #[.bool (sgO (some u1)), .string (nuO (some u1)), .string (deO (some u1)), .bool (sgO (some v1)), .string (nuO (some v1)), .string (deO (some v1)), .bool (sgO (some u2)), .string (nuO (some u2)), .string (deO (some u2)), .bool (sgO (some v2)), .string (nuO (some v2)), .string (deO (some v2)), .bool (sgO (some u3)), .string (nuO (some u3)), .string (deO (some u3)), .bool (sgO (some v3)), .string (nuO (some v3)), .string (deO (some v3))], .int .i64 0]) ∧ Below w.heap.size w w' := by
  have H := Lib.hid (Hp.start hT)
  clear hT
  have Sx : Hid (SmO (some x)) := Sz.o Zx (by omega)
  have Sy : Hid (SmO (some y)) := Sz.o Zy (by omega)
  have St : Hid (SmO (some t)) := Sz.o Zt (by omega)
  have Sr : Hid (SmO (some r)) := Sz.o Zr (by omega)
  have Ss : Hid (SmO (some s)) := Sz.o Zs (by omega)
  obtain ⟨c1, Ec1⟩ : ∃ z : Rat, Hid (x - mx (valO (some r)) ((0 : Int) : Rat) = z) := ⟨_, rfl⟩
  obtain ⟨d1, Ed1⟩ : ∃ z : Rat, Hid (x + mx (valO (some r)) ((0 : Int) : Rat) = z) := ⟨_, rfl⟩
  have Fc1 : Hid (x - r = c1) := by rw [← Ec1.out]; unfold Hid; rw [show valO (some r) = r from rfl, mx_zero hr]
  have Fd1 : Hid (x + r = d1) := by rw [← Ed1.out]; unfold Hid; rw [show valO (some r) = r from rfl, mx_zero hr]
  have W1 : Hid (Spn k (some x) (some x) x x) := Spn.of Zx (by omega)
  have M1 : Hid (mx a1 c1 = u1) := by rw [← Fc1.out]; exact E1.out
  have M2 : Hid (mn b1 d1 = v1) := by rw [← Fd1.out]; exact E2.out
  obtain ⟨c2, Ec2⟩ : ∃ z : Rat, Hid (y - mx (valO (some r)) ((0 : Int) : Rat) = z) := ⟨_, rfl⟩
  obtain ⟨d2, Ed2⟩ : ∃ z : Rat, Hid (y + mx (valO (some r)) ((0 : Int) : Rat) = z) := ⟨_, rfl⟩
  have Fc2 : Hid (y - r = c2) := by rw [← Ec2.out]; unfold Hid; rw [show valO (some r) = r from rfl, mx_zero hr]
  have Fd2 : Hid (y + r = d2) := by rw [← Ed2.out]; unfold Hid; rw [show valO (some r) = r from rfl, mx_zero hr]
  have W2 : Hid (Spn k (some y) (some y) y y) := Spn.of Zy (by omega)
  have M3 : Hid (mx a2 c2 = u2) := by rw [← Fc2.out]; exact E3.out
  have M4 : Hid (mn b2 d2 = v2) := by rw [← Fd2.out]; exact E4.out
  obtain ⟨c3, Ec3⟩ : ∃ z : Rat, Hid (t - mx (valO (some s)) ((0 : Int) : Rat) = z) := ⟨_, rfl⟩
  obtain ⟨d3, Ed3⟩ : ∃ z : Rat, Hid (t + mx (valO (some s)) ((0 : Int) : Rat) = z) := ⟨_, rfl⟩
  have Fc3 : Hid (t - s = c3) := by rw [← Ec3.out]; unfold Hid; rw [show valO (some s) = s from rfl, mx_zero hs]
  have Fd3 : Hid (t + s = d3) := by rw [← Ed3.out]; unfold Hid; rw [show valO (some s) = s from rfl, mx_zero hs]
  have W3 : Hid (Spn k (some t) (some t) t t) := Spn.of Zt (by omega)
  have M5 : Hid (mx a3 c3 = u3) := by rw [← Fc3.out]; exact E5.out
  have M6 : Hid (mn b3 d3 = v3) := by rw [← Fd3.out]; exact E6.out
  have Q : Hid (PoseF (k + m + 1) c1 d1 c2 d2 c3 d3) := by
    refine ⟨?_, ?_, ?_, ?_, ?_, ?_, ?_, ?_, ?_⟩
    · rw [← Fc1.out, ← Fd1.out]; exact sub_le_add hr.out
    · rw [← Fc2.out, ← Fd2.out]; exact sub_le_add hr.out
    · rw [← Fc3.out, ← Fd3.out]; exact sub_le_add hs.out
    · rw [← Fc1.out]; exact Sz.sub Zx Zr
    · rw [← Fd1.out]; exact Sz.add Zx Zr
    · rw [← Fc2.out]; exact Sz.sub Zy Zr
    · rw [← Fd2.out]; exact Sz.add Zy Zr
    · rw [← Fc3.out]; exact Sz.sub Zt Zs
    · rw [← Fd3.out]; exact Sz.add Zt Zs
  have P2 : Hid (PoseF (k + m + 1) a1 b1 a2 b2 a3 b3) := P.out.mono (by omega)
  have Rx : Hid (valO (some x) = x) := rfl
  have Ry : Hid (valO (some y) = y) := rfl
  have Rt : Hid (valO (some t) = t) := rfl
  go_enter Tryz.func19, Tryz.ntmps19
  go_wp2_with (first
      | ((with_reducible refine isLoad ?_); refine ldA H ?_)
      | ((with_reducible refine isBox ?_); refine bxA H ?_; clear H; intro _ _ H)
      | ((with_reducible refine isAlloc ?_); refine alA H ?_; clear H; intro _ _ H))
  refine (seeOf_any (some x) (some y) (some t) x y t _ Sx Sy St Rx Ry Rt H.out.tb).mono ?_
  rintro _ _ ⟨rfl, hb⟩
  replace H := Lib.hid (H.out.go hb)
  clear hb
  go_wp2_with (first
      | ((with_reducible refine isStore ?_); refine stA H ?_; clear H; intro _ H)
      | ((with_reducible refine isAlloc ?_); refine alA H ?_; clear H; intro _ _ H))
  refine wp_region_U 8 9 [.s] H (by kernel_rfl) (by kernel_rfl) (by kernel_rfl) (by decide) ?_
  simp only [List.take_succ_cons, List.take_zero, List.drop_succ_cons, List.drop_zero]
  repeat (first
      | ((with_reducible refine kLoad ?_); refine kldA H ?_))
  refine wpK_step (fun K hK => ?_)
  go_simp
  apply Exists.intro
  refine ⟨fun sx => ?_, hK _ ?_⟩
  · go_at_call 28
    exact Widen_any (j := k) (i := k) (m := m) (some x) (some x) x x (some y) (some y) y y (some t) (some t) t t (some r) (some s) c1 d1 c2 d2 c3 d3 _ (by omega) W1 W2 W3 Zr Zs Ec1 Ed1 Ec2 Ed2 Ec3 Ed3 (H.out.tbx sx)
  clear hK K
  refine wpK_step (fun K hK => ?_)
  go_simp
  apply Exists.intro
  refine ⟨fun sx => ?_, hK _ ?_⟩
  · go_at_call 42
    exact Narrow_y a1 b1 a2 b2 a3 b3 c1 d1 c2 d2 c3 d3 _ (by omega) P2.out Q.out u1 v1 u2 v2 u3 v3 M1 M2 M3 M4 M5 M6 U.out (H.out.tbx sx)
  clear hK K
  repeat (first
      | ((fail_if_success (with_reducible refine kCall ?_)); (with_reducible refine kCons ?_); refine wpK_step (fun K hK => ?_); go_simp; refine hK _ ?_; clear hK K))
  refine wpKeep_nil ?_
  refine wpL_S (by rfl) rfl rfl rfl (by (first | exact rRat | exact rSpan | exact rPose | exact rFrame | exact rVec | exact rTurn | exact rBox)) (by rfl) (by rfl) (by (repeat (first | apply Upd.head | apply Upd.tail | assumption))) (by rfl) (by (simp only [List.drop, List.take, List.nil_append, List.cons_append]); rfl) (by exact Nat.le_of_ble_eq_true rfl) (by rfl) ?_
  refine wpL_nil ?_
  clear H
  intro _ H
  go_wp2_with (first
      | go_skip)
  exact bodyPost_ret (results_Hv H Tryz.results19 (by (first | exact rRat | exact rSpan | exact rPose | exact rFrame | exact rVec | exact rTurn | exact rBox)) rfl (by (repeat (first | exact List.Mem.head _ | refine List.Mem.tail _ ?_ | assumption))) (by rfl) (by rfl)) rfl ⟨rfl, H.out.bel⟩
end Go.Proofs.YtolekonocbeekaaGreatDoor

namespace Go.Proofs.YtolekonocbeekaaGreatDoor
open Go.RowKit
set_option linter.unusedVariables false
set_option maxRecDepth 100000

set_option maxHeartbeats 4000000 in
theorem spanAdd_any {j k : Nat} (a b : Option Rat) (p q : Rat) (c d : Option Rat) (r s : Rat) (u : Rat) (v : Rat) (w : World) (hk : j + k ≤ 8000) (A : Hid (Spn j a b p q)) (C : Hid (Spn k c d r s)) (Eu : Hid (p + r = u)) (Ev : Hid (q + s = v)) (hT : Tb w) :
    Calls Tryz.prog 52 #[.agg #[.bool (sgO a), .string (nuO a), .string (deO a), .bool (sgO b), .string (nuO b), .string (deO b)], .agg #[.bool (sgO c), .string (nuO c), .string (deO c), .bool (sgO d), .string (nuO d), .string (deO d)]] w fun e w' => e = .returned (.agg #[.bool (sgO (some u)), .string (nuO (some u)), .string (deO (some u)), .bool (sgO (some v)), .string (nuO (some v)), .string (deO (some v))]) ∧ Below w.heap.size w w' := by
  have H := Lib.hid (Hp.start hT)
  clear hT
  have Zp : Hid (Sz j p) := A.out.zp
  have Sp : Hid (SmO (some p)) := Sz.o Zp (by omega)
  have Zq : Hid (Sz j q) := A.out.zq
  have Sq : Hid (SmO (some q)) := Sz.o Zq (by omega)
  have Zr : Hid (Sz k r) := C.out.zp
  have Sr : Hid (SmO (some r)) := Sz.o Zr (by omega)
  have Zs : Hid (Sz k s) := C.out.zq
  have Ss : Hid (SmO (some s)) := Sz.o Zs (by omega)
  have Zu : Hid (Sz (j + k + 1) u) := szEq Eu (Sz.add Zp Zr)
  have Su : Hid (SmO (some u)) := Sz.o Zu (by omega)
  have Zv : Hid (Sz (j + k + 1) v) := szEq Ev (Sz.add Zq Zs)
  have Sv : Hid (SmO (some v)) := Sz.o Zv (by omega)
  go_enter Tryz.func52, Tryz.ntmps52
  go_wp2_with (first
      | ((with_reducible refine isBox ?_); refine bxA H ?_; clear H; intro _ _ H)
      | ((with_reducible refine isAlloc ?_); refine alA H ?_; clear H; intro _ _ H))
  refine wp_region_T 4 H (by kernel_rfl) (by kernel_rfl) ?_
  simp only [List.take_succ_cons, List.take_zero, List.drop_succ_cons, List.drop_zero]
  repeat (first
      | ((with_reducible refine kLoad ?_); refine kldA H ?_))
  refine wpK_step (fun K hK => ?_)
  go_simp
  apply Exists.intro
  refine ⟨fun sx => ?_, hK _ ?_⟩
  · go_at_call 53
    exact spanfit_any a b p q _ A.out.sa A.out.sb A.out.n (H.out.tbx sx)
  clear hK K
  repeat (first
      | ((with_reducible refine kLoad ?_); refine kldA H ?_))
  refine wpK_step (fun K hK => ?_)
  go_simp
  apply Exists.intro
  refine ⟨fun sx => ?_, hK _ ?_⟩
  · go_at_call 53
    exact spanfit_any c d r s _ C.out.sa C.out.sb C.out.n (H.out.tbx sx)
  clear hK K
  refine wpKeep_nil ?_
  clear H
  intro _ H
  go_wp2_with (first
      | ((with_reducible refine isStore ?_); refine stA H ?_; clear H; intro _ H))
  refine wp_region_T 11 H (by kernel_rfl) (by kernel_rfl) ?_
  simp only [List.take_succ_cons, List.take_zero, List.drop_succ_cons, List.drop_zero]
  repeat (first
      | ((with_reducible refine kLoad ?_); refine kldA H ?_)
      | ((fail_if_success (with_reducible refine kCall ?_)); (with_reducible refine kCons ?_); refine wpK_step (fun K hK => ?_); go_simp; refine hK _ ?_; clear hK K))
  refine wpK_step (fun K hK => ?_)
  go_simp
  apply Exists.intro
  refine ⟨fun sx => ?_, hK _ ?_⟩
  · go_at_call 17
    exact RAdd_any (some p) (some r) u _ Sp Sr Eu (H.out.tbx sx)
  clear hK K
  repeat (first
      | ((with_reducible refine kLoad ?_); refine kldA H ?_)
      | ((fail_if_success (with_reducible refine kCall ?_)); (with_reducible refine kCons ?_); refine wpK_step (fun K hK => ?_); go_simp; refine hK _ ?_; clear hK K))
  refine wpK_step (fun K hK => ?_)
  go_simp
  apply Exists.intro
  refine ⟨fun sx => ?_, hK _ ?_⟩
  · go_at_call 17
    exact RAdd_any (some q) (some s) v _ Sq Ss Ev (H.out.tbx sx)
  clear hK K
  repeat (first
      | ((fail_if_success (with_reducible refine kCall ?_)); (with_reducible refine kCons ?_); refine wpK_step (fun K hK => ?_); go_simp; refine hK _ ?_; clear hK K))
  refine wpKeep_nil ?_
  clear H
  intro _ H
  go_wp2_with (first
      | ((with_reducible refine isStore ?_); refine stA H ?_; clear H; intro _ H))
  exact bodyPost_ret (results_H H Tryz.results52 (by (first | exact rRat | exact rSpan | exact rPose | exact rFrame | exact rVec | exact rTurn | exact rBox)) rfl (by (repeat (first | exact List.Mem.head _ | refine List.Mem.tail _ ?_ | assumption))) (by rfl)) rfl ⟨rfl, H.out.bel⟩
end Go.Proofs.YtolekonocbeekaaGreatDoor

namespace Go.Proofs.YtolekonocbeekaaGreatDoor
open Go.RowKit
set_option linter.unusedVariables false
set_option maxRecDepth 100000

set_option maxHeartbeats 4000000 in
theorem spanMul_any {j k : Nat} (a b : Option Rat) (p q : Rat) (c d : Option Rat) (r s : Rat) (lo hi : Rat) (w : World) (hk : j + k ≤ 3000) (A : Hid (Spn j a b p q)) (C : Hid (Spn k c d r s)) (F1 : Hid (mulL p q r s = lo)) (F2 : Hid (mulH p q r s = hi)) (hT : Tb w) :
    Calls Tryz.prog 78 #[.agg #[.bool (sgO a), .string (nuO a), .string (deO a), .bool (sgO b), .string (nuO b), .string (deO b)], .agg #[.bool (sgO c), .string (nuO c), .string (deO c), .bool (sgO d), .string (nuO d), .string (deO d)]] w fun e w' => e = .returned (.agg #[.bool (sgO (some lo)), .string (nuO (some lo)), .string (deO (some lo)), .bool (sgO (some hi)), .string (nuO (some hi)), .string (deO (some hi))]) ∧ Below w.heap.size w w' := by
  have H := Lib.hid (Hp.start hT)
  clear hT
  have Zp : Hid (Sz j p) := A.out.zp
  have Sp : Hid (SmO (some p)) := Sz.o Zp (by omega)
  have Zq : Hid (Sz j q) := A.out.zq
  have Sq : Hid (SmO (some q)) := Sz.o Zq (by omega)
  have Zr : Hid (Sz k r) := C.out.zp
  have Sr : Hid (SmO (some r)) := Sz.o Zr (by omega)
  have Zs : Hid (Sz k s) := C.out.zq
  have Ss : Hid (SmO (some s)) := Sz.o Zs (by omega)
  obtain ⟨x0, Ex0⟩ : ∃ z : Rat, Hid (p * r = z) := ⟨_, rfl⟩
  have Zx0 : Hid (Sz (j + k) x0) := szEq Ex0 (Sz.mul Zp Zr)
  have Sx0 : Hid (SmO (some x0)) := Sz.o Zx0 (by omega)
  obtain ⟨x1, Ex1⟩ : ∃ z : Rat, Hid (p * s = z) := ⟨_, rfl⟩
  have Zx1 : Hid (Sz (j + k) x1) := szEq Ex1 (Sz.mul Zp Zs)
  have Sx1 : Hid (SmO (some x1)) := Sz.o Zx1 (by omega)
  obtain ⟨x2, Ex2⟩ : ∃ z : Rat, Hid (q * r = z) := ⟨_, rfl⟩
  have Zx2 : Hid (Sz (j + k) x2) := szEq Ex2 (Sz.mul Zq Zr)
  have Sx2 : Hid (SmO (some x2)) := Sz.o Zx2 (by omega)
  obtain ⟨x3, Ex3⟩ : ∃ z : Rat, Hid (q * s = z) := ⟨_, rfl⟩
  have Zx3 : Hid (Sz (j + k) x3) := szEq Ex3 (Sz.mul Zq Zs)
  have Sx3 : Hid (SmO (some x3)) := Sz.o Zx3 (by omega)
  have G1 : Hid (arL x0 [x1, x2, x3] = lo) := by have h0 := F1.out; have h1 := Ex0.out; have h2 := Ex1.out; have h3 := Ex2.out; have h4 := Ex3.out; subst_vars; rfl
  have G2 : Hid (arH x0 [x1, x2, x3] = hi) := by have h0 := F2.out; have h1 := Ex0.out; have h2 := Ex1.out; have h3 := Ex2.out; have h4 := Ex3.out; subst_vars; rfl
  have ZA : Hid (∀ y ∈ [x0, x1, x2, x3], Sz (j + k) y) := by
    intro y hy
    simp only [List.mem_cons, List.not_mem_nil, or_false] at hy
    rcases hy with rfl | rfl | rfl | rfl
    · exact Zx0
    · exact Zx1
    · exact Zx2
    · exact Zx3
  go_enter Tryz.func78, Tryz.ntmps78
  go_wp2_with (first
      | ((with_reducible refine isBox ?_); refine bxA H ?_; clear H; intro _ _ H)
      | ((with_reducible refine isAlloc ?_); refine alA H ?_; clear H; intro _ _ H))
  refine wp_region_T 4 H (by kernel_rfl) (by kernel_rfl) ?_
  simp only [List.take_succ_cons, List.take_zero, List.drop_succ_cons, List.drop_zero]
  repeat (first
      | ((with_reducible refine kLoad ?_); refine kldA H ?_))
  refine wpK_step (fun K hK => ?_)
  go_simp
  apply Exists.intro
  refine ⟨fun sx => ?_, hK _ ?_⟩
  · go_at_call 53
    exact spanfit_any a b p q _ A.out.sa A.out.sb A.out.n (H.out.tbx sx)
  clear hK K
  repeat (first
      | ((with_reducible refine kLoad ?_); refine kldA H ?_))
  refine wpK_step (fun K hK => ?_)
  go_simp
  apply Exists.intro
  refine ⟨fun sx => ?_, hK _ ?_⟩
  · go_at_call 53
    exact spanfit_any c d r s _ C.out.sa C.out.sb C.out.n (H.out.tbx sx)
  clear hK K
  refine wpKeep_nil ?_
  clear H
  intro _ H
  go_wp2_with (first
      | ((with_reducible refine isStore ?_); refine stA H ?_; clear H; intro _ H))
  refine wp_region_T 20 H (by kernel_rfl) (by kernel_rfl) ?_
  simp only [List.take_succ_cons, List.take_zero, List.drop_succ_cons, List.drop_zero]
  repeat (first
      | ((with_reducible refine kLoad ?_); refine kldA H ?_)
      | ((fail_if_success (with_reducible refine kCall ?_)); (with_reducible refine kCons ?_); refine wpK_step (fun K hK => ?_); go_simp; refine hK _ ?_; clear hK K))
  refine wpK_step (fun K hK => ?_)
  go_simp
  apply Exists.intro
  refine ⟨fun sx => ?_, hK _ ?_⟩
  · go_at_call 18
    exact RMul_any (some p) (some r) x0 _ Sp Sr Ex0 (H.out.tbx sx)
  clear hK K
  repeat (first
      | ((with_reducible refine kLoad ?_); refine kldA H ?_)
      | ((fail_if_success (with_reducible refine kCall ?_)); (with_reducible refine kCons ?_); refine wpK_step (fun K hK => ?_); go_simp; refine hK _ ?_; clear hK K))
  refine wpK_step (fun K hK => ?_)
  go_simp
  apply Exists.intro
  refine ⟨fun sx => ?_, hK _ ?_⟩
  · go_at_call 18
    exact RMul_any (some p) (some s) x1 _ Sp Ss Ex1 (H.out.tbx sx)
  clear hK K
  repeat (first
      | ((with_reducible refine kLoad ?_); refine kldA H ?_)
      | ((fail_if_success (with_reducible refine kCall ?_)); (with_reducible refine kCons ?_); refine wpK_step (fun K hK => ?_); go_simp; refine hK _ ?_; clear hK K))
  refine wpK_step (fun K hK => ?_)
  go_simp
  apply Exists.intro
  refine ⟨fun sx => ?_, hK _ ?_⟩
  · go_at_call 18
    exact RMul_any (some q) (some r) x2 _ Sq Sr Ex2 (H.out.tbx sx)
  clear hK K
  repeat (first
      | ((with_reducible refine kLoad ?_); refine kldA H ?_)
      | ((fail_if_success (with_reducible refine kCall ?_)); (with_reducible refine kCons ?_); refine wpK_step (fun K hK => ?_); go_simp; refine hK _ ?_; clear hK K))
  refine wpK_step (fun K hK => ?_)
  go_simp
  apply Exists.intro
  refine ⟨fun sx => ?_, hK _ ?_⟩
  · go_at_call 18
    exact RMul_any (some q) (some s) x3 _ Sq Ss Ex3 (H.out.tbx sx)
  clear hK K
  refine wpKeep_nil ?_
  clear H
  intro _ H
  go_wp2_with (first
      | ((with_reducible refine isSlice ?_); refine wpList_sliceH H 24 (ratC [x0, x1, x2, x3]) 4 rfl rfl (by intro W; kernel_rfl) ?_; clear H; intro _ _ H; (simp only [Act.put, List.setIfInBounds_toArray, List.set_cons_succ, List.set_cons_zero])))
  refine (around_any (k := j + k) x0 [x1, x2, x3] 3 _ 24 lo hi _ (by omega) (by decide) (by decide) rfl ZA (H.out.get (.head _)) G1 G2 H.out.tb).mono ?_
  rintro _ _ ⟨rfl, hb⟩
  replace H := Lib.hid (H.out.go hb)
  clear hb
  go_wp2_with (first
      | ((with_reducible refine isStore ?_); refine stA H ?_; clear H; intro _ H))
  exact bodyPost_ret (results_H H Tryz.results78 (by (first | exact rRat | exact rSpan | exact rPose | exact rFrame | exact rVec | exact rTurn | exact rBox)) rfl (by (repeat (first | exact List.Mem.head _ | refine List.Mem.tail _ ?_ | assumption))) (by rfl)) rfl ⟨rfl, H.out.bel⟩
end Go.Proofs.YtolekonocbeekaaGreatDoor

namespace Go.Proofs.YtolekonocbeekaaGreatDoor
open Go.RowKit
set_option linter.unusedVariables false
set_option maxRecDepth 100000

set_option maxHeartbeats 4000000 in
theorem spanSub_any {j k : Nat} (a b : Option Rat) (p q : Rat) (c d : Option Rat) (r s : Rat) (u : Rat) (v : Rat) (w : World) (hk : j + k ≤ 8000) (A : Hid (Spn j a b p q)) (C : Hid (Spn k c d r s)) (Eu : Hid (p - s = u)) (Ev : Hid (q - r = v)) (hT : Tb w) :
    Calls Tryz.prog 50 #[.agg #[.bool (sgO a), .string (nuO a), .string (deO a), .bool (sgO b), .string (nuO b), .string (deO b)], .agg #[.bool (sgO c), .string (nuO c), .string (deO c), .bool (sgO d), .string (nuO d), .string (deO d)]] w fun e w' => e = .returned (.agg #[.bool (sgO (some u)), .string (nuO (some u)), .string (deO (some u)), .bool (sgO (some v)), .string (nuO (some v)), .string (deO (some v))]) ∧ Below w.heap.size w w' := by
  have H := Lib.hid (Hp.start hT)
  clear hT
  have Zp : Hid (Sz j p) := A.out.zp
  have Sp : Hid (SmO (some p)) := Sz.o Zp (by omega)
  have Zq : Hid (Sz j q) := A.out.zq
  have Sq : Hid (SmO (some q)) := Sz.o Zq (by omega)
  have Zr : Hid (Sz k r) := C.out.zp
  have Sr : Hid (SmO (some r)) := Sz.o Zr (by omega)
  have Zs : Hid (Sz k s) := C.out.zq
  have Ss : Hid (SmO (some s)) := Sz.o Zs (by omega)
  have Zu : Hid (Sz (j + k + 1) u) := szEq Eu (Sz.sub Zp Zs)
  have Su : Hid (SmO (some u)) := Sz.o Zu (by omega)
  have Zv : Hid (Sz (j + k + 1) v) := szEq Ev (Sz.sub Zq Zr)
  have Sv : Hid (SmO (some v)) := Sz.o Zv (by omega)
  go_enter Tryz.func50, Tryz.ntmps50
  go_wp2_with (first
      | ((with_reducible refine isBox ?_); refine bxA H ?_; clear H; intro _ _ H)
      | ((with_reducible refine isAlloc ?_); refine alA H ?_; clear H; intro _ _ H))
  refine wp_region_T 4 H (by kernel_rfl) (by kernel_rfl) ?_
  simp only [List.take_succ_cons, List.take_zero, List.drop_succ_cons, List.drop_zero]
  repeat (first
      | ((with_reducible refine kLoad ?_); refine kldA H ?_))
  refine wpK_step (fun K hK => ?_)
  go_simp
  apply Exists.intro
  refine ⟨fun sx => ?_, hK _ ?_⟩
  · go_at_call 53
    exact spanfit_any a b p q _ A.out.sa A.out.sb A.out.n (H.out.tbx sx)
  clear hK K
  repeat (first
      | ((with_reducible refine kLoad ?_); refine kldA H ?_))
  refine wpK_step (fun K hK => ?_)
  go_simp
  apply Exists.intro
  refine ⟨fun sx => ?_, hK _ ?_⟩
  · go_at_call 53
    exact spanfit_any c d r s _ C.out.sa C.out.sb C.out.n (H.out.tbx sx)
  clear hK K
  refine wpKeep_nil ?_
  clear H
  intro _ H
  go_wp2_with (first
      | ((with_reducible refine isStore ?_); refine stA H ?_; clear H; intro _ H))
  refine wp_region_T 11 H (by kernel_rfl) (by kernel_rfl) ?_
  simp only [List.take_succ_cons, List.take_zero, List.drop_succ_cons, List.drop_zero]
  repeat (first
      | ((with_reducible refine kLoad ?_); refine kldA H ?_)
      | ((fail_if_success (with_reducible refine kCall ?_)); (with_reducible refine kCons ?_); refine wpK_step (fun K hK => ?_); go_simp; refine hK _ ?_; clear hK K))
  refine wpK_step (fun K hK => ?_)
  go_simp
  apply Exists.intro
  refine ⟨fun sx => ?_, hK _ ?_⟩
  · go_at_call 45
    exact RSub_any (some p) (some s) u _ Sp Ss Eu (H.out.tbx sx)
  clear hK K
  repeat (first
      | ((with_reducible refine kLoad ?_); refine kldA H ?_)
      | ((fail_if_success (with_reducible refine kCall ?_)); (with_reducible refine kCons ?_); refine wpK_step (fun K hK => ?_); go_simp; refine hK _ ?_; clear hK K))
  refine wpK_step (fun K hK => ?_)
  go_simp
  apply Exists.intro
  refine ⟨fun sx => ?_, hK _ ?_⟩
  · go_at_call 45
    exact RSub_any (some q) (some r) v _ Sq Sr Ev (H.out.tbx sx)
  clear hK K
  repeat (first
      | ((fail_if_success (with_reducible refine kCall ?_)); (with_reducible refine kCons ?_); refine wpK_step (fun K hK => ?_); go_simp; refine hK _ ?_; clear hK K))
  refine wpKeep_nil ?_
  clear H
  intro _ H
  go_wp2_with (first
      | ((with_reducible refine isStore ?_); refine stA H ?_; clear H; intro _ H))
  exact bodyPost_ret (results_H H Tryz.results50 (by (first | exact rRat | exact rSpan | exact rPose | exact rFrame | exact rVec | exact rTurn | exact rBox)) rfl (by (repeat (first | exact List.Mem.head _ | refine List.Mem.tail _ ?_ | assumption))) (by rfl)) rfl ⟨rfl, H.out.bel⟩
end Go.Proofs.YtolekonocbeekaaGreatDoor

namespace Go.Proofs.YtolekonocbeekaaGreatDoor
open Go.RowKit
set_option linter.unusedVariables false
set_option maxRecDepth 100000

set_option maxHeartbeats 4000000 in
theorem turnOf_any {k : Nat} (r : Option Rat) (v : Rat) (w : World) (hk : k ≤ 9000) (Zr : Hid (SzO k r)) (Ev : Hid (valO r = v)) (hT : Tb w) :
    Calls Tryz.prog 66 #[.agg #[.bool (sgO r), .string (nuO r), .string (deO r)]] w fun e w' => e = .returned (.agg #[.bool false, .bool (sgO (some v)), .string (nuO (some v)), .string (deO (some v))]) ∧ Below w.heap.size w w' := by
  have H := Lib.hid (Hp.start hT)
  clear hT
  have Sr : Hid (SmO r) := SzO.sm Zr (by omega)
  have Zv : Hid (Sz k v) := szEq Ev (Zr)
  have Sv : Hid (SmO (some v)) := Sz.o Zv (by omega)
  have M : Hid (mn (valO r) (valO r) = v) := by unfold Hid; rw [mn_self]; exact Ev.out
  go_enter Tryz.func66, Tryz.ntmps66
  go_wp2_with (first
      | ((with_reducible refine isLoad ?_); refine ldA H ?_)
      | ((with_reducible refine isBox ?_); refine bxA H ?_; clear H; intro _ _ H)
      | ((with_reducible refine isAlloc ?_); refine alA H ?_; clear H; intro _ _ H))
  refine (RMin_any r r v _ Sr Sr M H.out.tb).mono ?_
  rintro _ _ ⟨rfl, hb⟩
  replace H := Lib.hid (H.out.go hb)
  clear hb
  go_wp2_with (first
      | ((with_reducible refine isStore ?_); refine stA H ?_; clear H; intro _ H))
  exact bodyPost_ret (results_H H Tryz.results66 (by (first | exact rRat | exact rSpan | exact rPose | exact rFrame | exact rVec | exact rTurn | exact rBox)) rfl (by (repeat (first | exact List.Mem.head _ | refine List.Mem.tail _ ?_ | assumption))) (by rfl)) rfl ⟨rfl, H.out.bel⟩
end Go.Proofs.YtolekonocbeekaaGreatDoor

namespace Go.Proofs.YtolekonocbeekaaGreatDoor
open Go.RowKit
set_option linter.unusedVariables false
set_option maxRecDepth 100000

set_option maxHeartbeats 4000000 in
theorem frameZero_any {k : Nat} (o : Rat) (w : World) (hk : k ≤ 200) (Eo : Hid (((0 : Int) : Rat) = o)) (hT : Tb w) :
    Calls Tryz.prog 37 #[] w fun e w' => e = .returned (.agg #[.bool (sgO (some o)), .string (nuO (some o)), .string (deO (some o)), .bool (sgO (some o)), .string (nuO (some o)), .string (deO (some o)), .bool false, .bool (sgO (some o)), .string (nuO (some o)), .string (deO (some o))]) ∧ Below w.heap.size w w' := by
  have H := Lib.hid (Hp.start hT)
  clear hT
  have Zo : Hid (Sz 3 o) := szEq Eo (Sz.int 0 (by decide))
  have So : Hid (SmO (some o)) := Sz.o Zo (by omega)
  have Eo2 : Hid (valO (some o) = o) := rfl
  go_enter Tryz.func37, Tryz.ntmps37
  go_wp2_with (first
      | ((with_reducible refine isAlloc ?_); refine alA H ?_; clear H; intro _ _ H))
  refine (ROf_any 0 o _ (by decide) (by decide) Eo H.out.tb).mono ?_
  rintro _ _ ⟨rfl, hb⟩
  replace H := Lib.hid (H.out.go hb)
  clear hb
  go_wp2_with (first
      | ((with_reducible refine isStore ?_); refine stA H ?_; clear H; intro _ H)
      | ((with_reducible refine isAlloc ?_); refine alA H ?_; clear H; intro _ _ H))
  refine wp_region_T 6 H (by kernel_rfl) (by kernel_rfl) ?_
  simp only [List.take_succ_cons, List.take_zero, List.drop_succ_cons, List.drop_zero]
  repeat (first
      | ((with_reducible refine kLoad ?_); refine kldA H ?_)
      | ((fail_if_success (with_reducible refine kCall ?_)); (with_reducible refine kCons ?_); refine wpK_step (fun K hK => ?_); go_simp; refine hK _ ?_; clear hK K))
  refine wpK_step (fun K hK => ?_)
  go_simp
  apply Exists.intro
  refine ⟨fun sx => ?_, hK _ ?_⟩
  · go_at_call 66
    exact turnOf_any (some o) o _ (by omega) Zo Eo2 (H.out.tbx sx)
  clear hK K
  repeat (first
      | ((fail_if_success (with_reducible refine kCall ?_)); (with_reducible refine kCons ?_); refine wpK_step (fun K hK => ?_); go_simp; refine hK _ ?_; clear hK K))
  refine wpKeep_nil ?_
  clear H
  intro _ H
  go_wp2_with (first
      | ((with_reducible refine isStore ?_); refine stA H ?_; clear H; intro _ H))
  exact bodyPost_ret (results_H H Tryz.results37 (by (first | exact rRat | exact rSpan | exact rPose | exact rFrame | exact rVec | exact rTurn | exact rBox)) rfl (by (repeat (first | exact List.Mem.head _ | refine List.Mem.tail _ ?_ | assumption))) (by rfl)) rfl ⟨rfl, H.out.bel⟩
end Go.Proofs.YtolekonocbeekaaGreatDoor

namespace Go.Proofs.YtolekonocbeekaaGreatDoor
open Go.RowKit
set_option linter.unusedVariables false
set_option maxRecDepth 100000

set_option maxHeartbeats 4000000 in
theorem turnFit_any {k : Nat} (r : Option Rat) (v : Rat) (w : World) (hk : k ≤ 9000) (Zr : Hid (SzO k r)) (Ev : Hid (valO r = v)) (hT : Tb w) :
    Calls Tryz.prog 65 #[.agg #[.bool false, .bool (sgO r), .string (nuO r), .string (deO r)]] w fun e w' => e = .returned (.agg #[.bool false, .bool (sgO (some v)), .string (nuO (some v)), .string (deO (some v))]) ∧ Below w.heap.size w w' := by
  have H := Lib.hid (Hp.start hT)
  clear hT
  have Sr : Hid (SmO r) := SzO.sm Zr (by omega)
  have Zv : Hid (Sz k v) := szEq Ev (Zr)
  have Sv : Hid (SmO (some v)) := Sz.o Zv (by omega)
  go_enter Tryz.func65, Tryz.ntmps65
  go_wp2_with (first
      | ((with_reducible refine isLoad ?_); refine ldA H ?_)
      | ((with_reducible refine isLoad ?_); refine ld1A H ?_)
      | ((with_reducible refine isBox ?_); refine bxA H ?_; clear H; intro _ _ H)
      | ((with_reducible refine isAlloc ?_); refine alA H ?_; clear H; intro _ _ H))
  refine (turnOf_any r v _ (by omega) Zr Ev H.out.tb).mono ?_
  rintro _ _ ⟨rfl, hb⟩
  replace H := Lib.hid (H.out.go hb)
  clear hb
  go_wp2_with (first
      | ((with_reducible refine isStore ?_); refine stA H ?_; clear H; intro _ H))
  exact bodyPost_ret (results_H H Tryz.results65 (by (first | exact rRat | exact rSpan | exact rPose | exact rFrame | exact rVec | exact rTurn | exact rBox)) rfl (by (repeat (first | exact List.Mem.head _ | refine List.Mem.tail _ ?_ | assumption))) (by rfl)) rfl ⟨rfl, H.out.bel⟩
end Go.Proofs.YtolekonocbeekaaGreatDoor

namespace Go.Proofs.YtolekonocbeekaaGreatDoor
open Go.RowKit
set_option linter.unusedVariables false
set_option maxRecDepth 100000

set_option maxHeartbeats 4000000 in
theorem turnBack_any {k : Nat} (r : Option Rat) (n : Rat) (w : World) (hk : k ≤ 1000) (Zr : Hid (SzO k r)) (Fn : Hid (-(valO r) = n)) (hT : Tb w) :
    Calls Tryz.prog 34 #[.agg #[.bool false, .bool (sgO r), .string (nuO r), .string (deO r)]] w fun e w' => e = .returned (.agg #[.bool false, .bool (sgO (some n)), .string (nuO (some n)), .string (deO (some n))]) ∧ Below w.heap.size w w' := by
  have H := Lib.hid (Hp.start hT)
  clear hT
  have Sr : Hid (SmO r) := SzO.sm Zr (by omega)
  obtain ⟨v, Ev⟩ : ∃ z : Rat, Hid (valO r = z) := ⟨_, rfl⟩
  have Zv : Hid (Sz k v) := szEq Ev (Zr)
  have Sv : Hid (SmO (some v)) := Sz.o Zv (by omega)
  have En : Hid (-v = n) := by have h0 := Fn.out; have h1 := Ev.out; subst_vars; rfl
  have Zn : Hid (Sz k n) := szEq En (Sz.neg Zv)
  have Sn : Hid (SmO (some n)) := Sz.o Zn (by omega)
  go_enter Tryz.func34, Tryz.ntmps34
  go_wp2_with (first
      | ((with_reducible refine isLoad ?_); refine ldA H ?_)
      | ((with_reducible refine isBox ?_); refine bxA H ?_; clear H; intro _ _ H)
      | ((with_reducible refine isAlloc ?_); refine alA H ?_; clear H; intro _ _ H))
  refine (turnFit_any r v _ (by omega) Zr Ev H.out.tb).mono ?_
  rintro _ _ ⟨rfl, hb⟩
  replace H := Lib.hid (H.out.go hb)
  clear hb
  go_wp2_with (first
      | ((with_reducible refine isLoad ?_); refine ldA H ?_)
      | ((with_reducible refine isStore ?_); refine stA H ?_; clear H; intro _ H))
  refine (RNeg_any (some v) n _ Sv En H.out.tb).mono ?_
  rintro _ _ ⟨rfl, hb⟩
  replace H := Lib.hid (H.out.go hb)
  clear hb
  go_wp2_with (first
      | ((with_reducible refine isLoad ?_); refine ldA H ?_)
      | ((with_reducible refine isStore ?_); refine stA H ?_; clear H; intro _ H))
  exact bodyPost_ret (results_H H Tryz.results34 (by (first | exact rRat | exact rSpan | exact rPose | exact rFrame | exact rVec | exact rTurn | exact rBox)) rfl (by (repeat (first | exact List.Mem.head _ | refine List.Mem.tail _ ?_ | assumption))) (by rfl)) rfl ⟨rfl, H.out.bel⟩
end Go.Proofs.YtolekonocbeekaaGreatDoor

namespace Go.Proofs.YtolekonocbeekaaGreatDoor
open Go.RowKit
set_option linter.unusedVariables false
set_option maxRecDepth 100000

set_option maxHeartbeats 4000000 in
theorem turnCos_any {k : Nat} (r : Option Rat) (u : Rat) (w : World) (hk : k ≤ 1000) (Zr : Hid (SzO k r)) (Fu : Hid (cosQ (valO r) = u)) (hT : Tb w) :
    Calls Tryz.prog 69 #[.agg #[.bool false, .bool (sgO r), .string (nuO r), .string (deO r)]] w fun e w' => e = .returned (.agg #[.bool (sgO (some u)), .string (nuO (some u)), .string (deO (some u))]) ∧ Below w.heap.size w w' := by
  have H := Lib.hid (Hp.start hT)
  clear hT
  have Sr : Hid (SmO r) := SzO.sm Zr (by omega)
  obtain ⟨v, Ev⟩ : ∃ z : Rat, Hid (valO r = z) := ⟨_, rfl⟩
  have Zv : Hid (Sz k v) := szEq Ev (Zr)
  have Sv : Hid (SmO (some v)) := Sz.o Zv (by omega)
  obtain ⟨qq, Eqq⟩ : ∃ z : Rat, Hid (v * v = z) := ⟨_, rfl⟩
  have Zqq : Hid (Sz (k + k) qq) := szEq Eqq (Sz.mul Zv Zv)
  have Sqq : Hid (SmO (some qq)) := Sz.o Zqq (by omega)
  obtain ⟨o, Eo⟩ : ∃ z : Rat, Hid (((1 : Int) : Rat) = z) := ⟨_, rfl⟩
  have Zo : Hid (Sz 3 o) := szEq Eo (Sz.int (1) (by decide))
  have So : Hid (SmO (some o)) := Sz.o Zo (by omega)
  obtain ⟨n, En⟩ : ∃ z : Rat, Hid (o - qq = z) := ⟨_, rfl⟩
  have Zn : Hid (Sz (3 + (k + k) + 1) n) := szEq En (Sz.sub Zo Zqq)
  have Sn : Hid (SmO (some n)) := Sz.o Zn (by omega)
  obtain ⟨d, Ed⟩ : ∃ z : Rat, Hid (o + qq = z) := ⟨_, rfl⟩
  have Zd : Hid (Sz (3 + (k + k) + 1) d) := szEq Ed (Sz.add Zo Zqq)
  have Sd : Hid (SmO (some d)) := Sz.o Zd (by omega)
  have Nd : Hid (valO (some d) ≠ 0) := by have h1 := Eqq.out; have h2 := Ed.out; have h3 := Eo.out; subst_vars; exact onesq_ne _
  have Eu : Hid (n / d = u) := by have h0 := Fu.out; have h1 := Ev.out; have h2 := Eqq.out; have h3 := Eo.out; have h4 := En.out; have h5 := Ed.out; subst_vars; rfl
  have Zu : Hid (Sz ((3 + (k + k) + 1) + (3 + (k + k) + 1)) u) := szEq Eu (Sz.div Zn Zd Nd)
  have Su : Hid (SmO (some u)) := Sz.o Zu (by omega)
  go_enter Tryz.func69, Tryz.ntmps69
  go_wp2_with (first
      | ((with_reducible refine isLoad ?_); refine ldA H ?_)
      | ((with_reducible refine isBox ?_); refine bxA H ?_; clear H; intro _ _ H)
      | ((with_reducible refine isAlloc ?_); refine alA H ?_; clear H; intro _ _ H))
  refine (turnFit_any r v _ (by omega) Zr Ev H.out.tb).mono ?_
  rintro _ _ ⟨rfl, hb⟩
  replace H := Lib.hid (H.out.go hb)
  clear hb
  go_wp2_with (first
      | ((with_reducible refine isLoad ?_); refine ldA H ?_)
      | ((with_reducible refine isLoad ?_); refine ld1A H ?_)
      | ((with_reducible refine isStore ?_); refine stA H ?_; clear H; intro _ H))
  refine (RMul_any (some v) (some v) qq _ Sv Sv Eqq H.out.tb).mono ?_
  rintro _ _ ⟨rfl, hb⟩
  replace H := Lib.hid (H.out.go hb)
  clear hb
  go_wp2_with (first
      | ((with_reducible refine isStore ?_); refine stA H ?_; clear H; intro _ H)
      | ((with_reducible refine isAlloc ?_); refine alA H ?_; clear H; intro _ _ H))
  refine wp_region_G (vs := [.bool (sgO (some u)), .string (nuO (some u)), .string (deO (some u))]) 10 H (by kernel_rfl) (by kernel_rfl) rfl rfl (by simp [Allocs, go_sem]; intro _ _; rfl) (by kernel_rfl) rfl rfl ?_
  simp only [List.take_succ_cons, List.take_zero, List.drop_succ_cons, List.drop_zero]
  refine wpK_step (fun K hK => ?_)
  go_simp
  apply Exists.intro
  refine ⟨fun sx => ?_, hK _ ?_⟩
  · go_at_call 14
    exact ROf_any (1) o _ (by decide) (by decide) Eo (H.out.tbx sx)
  clear hK K
  repeat (first
      | ((with_reducible refine kLoad ?_); refine kldA H ?_))
  refine wpK_step (fun K hK => ?_)
  go_simp
  apply Exists.intro
  refine ⟨fun sx => ?_, hK _ ?_⟩
  · go_at_call 45
    exact RSub_any (some o) (some qq) n _ So Sqq En (H.out.tbx sx)
  clear hK K
  refine wpK_step (fun K hK => ?_)
  go_simp
  apply Exists.intro
  refine ⟨fun sx => ?_, hK _ ?_⟩
  · go_at_call 14
    exact ROf_any (1) o _ (by decide) (by decide) Eo (H.out.tbx sx)
  clear hK K
  repeat (first
      | ((with_reducible refine kLoad ?_); refine kldA H ?_))
  refine wpK_step (fun K hK => ?_)
  go_simp
  apply Exists.intro
  refine ⟨fun sx => ?_, hK _ ?_⟩
  · go_at_call 17
    exact RAdd_any (some o) (some qq) d _ So Sqq Ed (H.out.tbx sx)
  clear hK K
  refine wpK_step (fun K hK => ?_)
  go_simp
  apply Exists.intro
  refine ⟨fun sx => ?_, hK _ ?_⟩
  · go_at_call 44
    exact RDiv_any (some n) (some d) u _ Sn Sd Nd Eu (H.out.tbx sx)
  clear hK K
  repeat (first
      | ((fail_if_success (with_reducible refine kCall ?_)); (with_reducible refine kCons ?_); refine wpK_step (fun K hK => ?_); go_simp; refine hK _ ?_; clear hK K))
  refine wpKeep_nil ?_
  intro _
  (simp only [Act.put, List.setIfInBounds_toArray, List.set_cons_succ, List.set_cons_zero])
  refine ⟨⟨⟨_, _, _, rfl, by (first | exact rRat | exact rSpan | exact rPose | exact rFrame | exact rVec | exact rTurn | exact rBox), rfl, rfl⟩, rfl, rfl, rfl, rfl⟩, ?_⟩
  clear H
  intro _ H
  go_wp2_with (first
      | ((with_reducible refine isLoad ?_); refine ldA H ?_)
      | ((with_reducible refine isStore ?_); refine stA H ?_; clear H; intro _ H))
  exact bodyPost_ret (results_H H Tryz.results69 (by (first | exact rRat | exact rSpan | exact rPose | exact rFrame | exact rVec | exact rTurn | exact rBox)) rfl (by (repeat (first | exact List.Mem.head _ | refine List.Mem.tail _ ?_ | assumption))) (by rfl)) rfl ⟨rfl, H.out.bel⟩
end Go.Proofs.YtolekonocbeekaaGreatDoor

namespace Go.Proofs.YtolekonocbeekaaGreatDoor
open Go.RowKit
set_option linter.unusedVariables false
set_option maxRecDepth 100000

set_option maxHeartbeats 4000000 in
theorem turnSin_any {k : Nat} (r : Option Rat) (u : Rat) (w : World) (hk : k ≤ 1000) (Zr : Hid (SzO k r)) (Fu : Hid (sinQ (valO r) = u)) (hT : Tb w) :
    Calls Tryz.prog 70 #[.agg #[.bool false, .bool (sgO r), .string (nuO r), .string (deO r)]] w fun e w' => e = .returned (.agg #[.bool (sgO (some u)), .string (nuO (some u)), .string (deO (some u))]) ∧ Below w.heap.size w w' := by
  have H := Lib.hid (Hp.start hT)
  clear hT
  have Sr : Hid (SmO r) := SzO.sm Zr (by omega)
  obtain ⟨v, Ev⟩ : ∃ z : Rat, Hid (valO r = z) := ⟨_, rfl⟩
  have Zv : Hid (Sz k v) := szEq Ev (Zr)
  have Sv : Hid (SmO (some v)) := Sz.o Zv (by omega)
  obtain ⟨m, Em⟩ : ∃ z : Rat, Hid (v + v = z) := ⟨_, rfl⟩
  have Zm : Hid (Sz (k + k + 1) m) := szEq Em (Sz.add Zv Zv)
  have Sm : Hid (SmO (some m)) := Sz.o Zm (by omega)
  obtain ⟨o, Eo⟩ : ∃ z : Rat, Hid (((1 : Int) : Rat) = z) := ⟨_, rfl⟩
  have Zo : Hid (Sz 3 o) := szEq Eo (Sz.int (1) (by decide))
  have So : Hid (SmO (some o)) := Sz.o Zo (by omega)
  obtain ⟨qq, Eqq⟩ : ∃ z : Rat, Hid (v * v = z) := ⟨_, rfl⟩
  have Zqq : Hid (Sz (k + k) qq) := szEq Eqq (Sz.mul Zv Zv)
  have Sqq : Hid (SmO (some qq)) := Sz.o Zqq (by omega)
  obtain ⟨d, Ed⟩ : ∃ z : Rat, Hid (o + qq = z) := ⟨_, rfl⟩
  have Zd : Hid (Sz (3 + (k + k) + 1) d) := szEq Ed (Sz.add Zo Zqq)
  have Sd : Hid (SmO (some d)) := Sz.o Zd (by omega)
  have Nd : Hid (valO (some d) ≠ 0) := by have h1 := Eqq.out; have h2 := Ed.out; have h3 := Eo.out; subst_vars; exact onesq_ne _
  have Eu : Hid (m / d = u) := by have h0 := Fu.out; have h1 := Ev.out; have h2 := Em.out; have h3 := Eo.out; have h4 := Eqq.out; have h5 := Ed.out; subst_vars; rfl
  have Zu : Hid (Sz ((k + k + 1) + (3 + (k + k) + 1)) u) := szEq Eu (Sz.div Zm Zd Nd)
  have Su : Hid (SmO (some u)) := Sz.o Zu (by omega)
  go_enter Tryz.func70, Tryz.ntmps70
  go_wp2_with (first
      | ((with_reducible refine isLoad ?_); refine ldA H ?_)
      | ((with_reducible refine isBox ?_); refine bxA H ?_; clear H; intro _ _ H)
      | ((with_reducible refine isAlloc ?_); refine alA H ?_; clear H; intro _ _ H))
  refine (turnFit_any r v _ (by omega) Zr Ev H.out.tb).mono ?_
  rintro _ _ ⟨rfl, hb⟩
  replace H := Lib.hid (H.out.go hb)
  clear hb
  go_wp2_with (first
      | ((with_reducible refine isStore ?_); refine stA H ?_; clear H; intro _ H))
  refine wp_region_G (vs := [.bool (sgO (some u)), .string (nuO (some u)), .string (deO (some u))]) 16 H (by kernel_rfl) (by kernel_rfl) rfl rfl (by simp [Allocs, go_sem]; intro _ _; rfl) (by kernel_rfl) rfl rfl ?_
  simp only [List.take_succ_cons, List.take_zero, List.drop_succ_cons, List.drop_zero]
  repeat (first
      | ((with_reducible refine kLoad ?_); refine kldA H ?_)
      | ((fail_if_success (with_reducible refine kCall ?_)); (with_reducible refine kCons ?_); refine wpK_step (fun K hK => ?_); go_simp; refine hK _ ?_; clear hK K))
  refine wpK_step (fun K hK => ?_)
  go_simp
  apply Exists.intro
  refine ⟨fun sx => ?_, hK _ ?_⟩
  · go_at_call 17
    exact RAdd_any (some v) (some v) m _ Sv Sv Em (H.out.tbx sx)
  clear hK K
  refine wpK_step (fun K hK => ?_)
  go_simp
  apply Exists.intro
  refine ⟨fun sx => ?_, hK _ ?_⟩
  · go_at_call 14
    exact ROf_any (1) o _ (by decide) (by decide) Eo (H.out.tbx sx)
  clear hK K
  repeat (first
      | ((with_reducible refine kLoad ?_); refine kldA H ?_)
      | ((fail_if_success (with_reducible refine kCall ?_)); (with_reducible refine kCons ?_); refine wpK_step (fun K hK => ?_); go_simp; refine hK _ ?_; clear hK K))
  refine wpK_step (fun K hK => ?_)
  go_simp
  apply Exists.intro
  refine ⟨fun sx => ?_, hK _ ?_⟩
  · go_at_call 18
    exact RMul_any (some v) (some v) qq _ Sv Sv Eqq (H.out.tbx sx)
  clear hK K
  refine wpK_step (fun K hK => ?_)
  go_simp
  apply Exists.intro
  refine ⟨fun sx => ?_, hK _ ?_⟩
  · go_at_call 17
    exact RAdd_any (some o) (some qq) d _ So Sqq Ed (H.out.tbx sx)
  clear hK K
  refine wpK_step (fun K hK => ?_)
  go_simp
  apply Exists.intro
  refine ⟨fun sx => ?_, hK _ ?_⟩
  · go_at_call 44
    exact RDiv_any (some m) (some d) u _ Sm Sd Nd Eu (H.out.tbx sx)
  clear hK K
  repeat (first
      | ((fail_if_success (with_reducible refine kCall ?_)); (with_reducible refine kCons ?_); refine wpK_step (fun K hK => ?_); go_simp; refine hK _ ?_; clear hK K))
  refine wpKeep_nil ?_
  intro _
  (simp only [Act.put, List.setIfInBounds_toArray, List.set_cons_succ, List.set_cons_zero])
  refine ⟨⟨⟨_, _, _, rfl, by (first | exact rRat | exact rSpan | exact rPose | exact rFrame | exact rVec | exact rTurn | exact rBox), rfl, rfl⟩, rfl, rfl, rfl, rfl⟩, ?_⟩
  clear H
  intro _ H
  go_wp2_with (first
      | ((with_reducible refine isLoad ?_); refine ldA H ?_)
      | ((with_reducible refine isStore ?_); refine stA H ?_; clear H; intro _ H))
  exact bodyPost_ret (results_H H Tryz.results70 (by (first | exact rRat | exact rSpan | exact rPose | exact rFrame | exact rVec | exact rTurn | exact rBox)) rfl (by (repeat (first | exact List.Mem.head _ | refine List.Mem.tail _ ?_ | assumption))) (by rfl)) rfl ⟨rfl, H.out.bel⟩
end Go.Proofs.YtolekonocbeekaaGreatDoor

namespace Go.Proofs.YtolekonocbeekaaGreatDoor
open Go.RowKit
set_option linter.unusedVariables false
set_option maxRecDepth 100000

set_option maxHeartbeats 4000000 in
theorem rotate_any {j k : Nat} (a b : Option Rat) (p q : Rat) (c d : Option Rat) (r s : Rat) (o : Option Rat) (xl : Rat) (xh : Rat) (yl : Rat) (yh : Rat) (w : World) (hk : k ≤ 2500 ∧ j ≤ 100) (A : Hid (Spn k a b p q)) (B : Hid (Spn k c d r s)) (Zo : Hid (SzO j o)) (Fxl : Hid (rtXL (valO o) p q r s = xl)) (Fxh : Hid (rtXH (valO o) p q r s = xh)) (Fyl : Hid (rtYL (valO o) p q r s = yl)) (Fyh : Hid (rtYH (valO o) p q r s = yh)) (hT : Tb w) :
    Calls Tryz.prog 49 #[.agg #[.bool (sgO a), .string (nuO a), .string (deO a), .bool (sgO b), .string (nuO b), .string (deO b)], .agg #[.bool (sgO c), .string (nuO c), .string (deO c), .bool (sgO d), .string (nuO d), .string (deO d)], .agg #[.bool false, .bool (sgO o), .string (nuO o), .string (deO o)]] w fun e w' => e = .returned (.tuple #[.agg #[.bool (sgO (some xl)), .string (nuO (some xl)), .string (deO (some xl)), .bool (sgO (some xh)), .string (nuO (some xh)), .string (deO (some xh))], .agg #[.bool (sgO (some yl)), .string (nuO (some yl)), .string (deO (some yl)), .bool (sgO (some yh)), .string (nuO (some yh)), .string (deO (some yh))]]) ∧ Below w.heap.size w w' := by
  have H := Lib.hid (Hp.start hT)
  clear hT
  have Zp : Hid (Sz k p) := A.out.zp
  have Sp : Hid (SmO (some p)) := Sz.o Zp (by omega)
  have Zq : Hid (Sz k q) := A.out.zq
  have Sq : Hid (SmO (some q)) := Sz.o Zq (by omega)
  have Zr : Hid (Sz k r) := B.out.zp
  have Sr : Hid (SmO (some r)) := Sz.o Zr (by omega)
  have Zs : Hid (Sz k s) := B.out.zq
  have Ss : Hid (SmO (some s)) := Sz.o Zs (by omega)
  have So : Hid (SmO o) := SzO.sm Zo (by omega)
  obtain ⟨cc, Ecc⟩ : ∃ z : Rat, Hid (cosQ (valO o) = z) := ⟨_, rfl⟩
  have Zcc : Hid (Sz (4 * j + 8) cc) := szEq Ecc (Sz.cosQ Zo)
  have Scc : Hid (SmO (some cc)) := Sz.o Zcc (by omega)
  obtain ⟨ss, Ess⟩ : ∃ z : Rat, Hid (sinQ (valO o) = z) := ⟨_, rfl⟩
  have Zss : Hid (Sz (4 * j + 8) ss) := szEq Ess (Sz.sinQ Zo)
  have Sss : Hid (SmO (some ss)) := Sz.o Zss (by omega)
  have C : Hid (Spn (4 * j + 8) (some cc) (some cc) cc cc) := Spn.of Zcc (by omega)
  have D : Hid (Spn (4 * j + 8) (some ss) (some ss) ss ss) := Spn.of Zss (by omega)
  obtain ⟨u1, Eu1⟩ : ∃ z : Rat, Hid (mulL cc cc p q = z) := ⟨_, rfl⟩
  obtain ⟨v1, Ev1⟩ : ∃ z : Rat, Hid (mulH cc cc p q = z) := ⟨_, rfl⟩
  have M1 : Hid (Spn ((4 * j + 8) + k) (some u1) (some v1) u1 v1) := Spn.mul C.out A.out Eu1.out Ev1.out (by omega)
  have Zu1 : Hid (Sz ((4 * j + 8) + k) u1) := M1.out.zp
  have Su1 : Hid (SmO (some u1)) := Sz.o Zu1 (by omega)
  have Zv1 : Hid (Sz ((4 * j + 8) + k) v1) := M1.out.zq
  have Sv1 : Hid (SmO (some v1)) := Sz.o Zv1 (by omega)
  obtain ⟨u2, Eu2⟩ : ∃ z : Rat, Hid (mulL ss ss r s = z) := ⟨_, rfl⟩
  obtain ⟨v2, Ev2⟩ : ∃ z : Rat, Hid (mulH ss ss r s = z) := ⟨_, rfl⟩
  have M2 : Hid (Spn ((4 * j + 8) + k) (some u2) (some v2) u2 v2) := Spn.mul D.out B.out Eu2.out Ev2.out (by omega)
  have Zu2 : Hid (Sz ((4 * j + 8) + k) u2) := M2.out.zp
  have Su2 : Hid (SmO (some u2)) := Sz.o Zu2 (by omega)
  have Zv2 : Hid (Sz ((4 * j + 8) + k) v2) := M2.out.zq
  have Sv2 : Hid (SmO (some v2)) := Sz.o Zv2 (by omega)
  have Exl : Hid (u1 - v2 = xl) := by have h0 := Fxl.out; have h1 := Ecc.out; have h2 := Ess.out; have h3 := Eu1.out; have h4 := Ev1.out; have h5 := Eu2.out; have h6 := Ev2.out; subst_vars; rfl
  have Exh : Hid (v1 - u2 = xh) := by have h0 := Fxh.out; have h1 := Ecc.out; have h2 := Ess.out; have h3 := Eu1.out; have h4 := Ev1.out; have h5 := Eu2.out; have h6 := Ev2.out; subst_vars; rfl
  obtain ⟨u3, Eu3⟩ : ∃ z : Rat, Hid (mulL ss ss p q = z) := ⟨_, rfl⟩
  obtain ⟨v3, Ev3⟩ : ∃ z : Rat, Hid (mulH ss ss p q = z) := ⟨_, rfl⟩
  have M3 : Hid (Spn ((4 * j + 8) + k) (some u3) (some v3) u3 v3) := Spn.mul D.out A.out Eu3.out Ev3.out (by omega)
  have Zu3 : Hid (Sz ((4 * j + 8) + k) u3) := M3.out.zp
  have Su3 : Hid (SmO (some u3)) := Sz.o Zu3 (by omega)
  have Zv3 : Hid (Sz ((4 * j + 8) + k) v3) := M3.out.zq
  have Sv3 : Hid (SmO (some v3)) := Sz.o Zv3 (by omega)
  obtain ⟨u4, Eu4⟩ : ∃ z : Rat, Hid (mulL cc cc r s = z) := ⟨_, rfl⟩
  obtain ⟨v4, Ev4⟩ : ∃ z : Rat, Hid (mulH cc cc r s = z) := ⟨_, rfl⟩
  have M4 : Hid (Spn ((4 * j + 8) + k) (some u4) (some v4) u4 v4) := Spn.mul C.out B.out Eu4.out Ev4.out (by omega)
  have Zu4 : Hid (Sz ((4 * j + 8) + k) u4) := M4.out.zp
  have Su4 : Hid (SmO (some u4)) := Sz.o Zu4 (by omega)
  have Zv4 : Hid (Sz ((4 * j + 8) + k) v4) := M4.out.zq
  have Sv4 : Hid (SmO (some v4)) := Sz.o Zv4 (by omega)
  have Eyl : Hid (u3 + u4 = yl) := by have h0 := Fyl.out; have h1 := Ecc.out; have h2 := Ess.out; have h3 := Eu1.out; have h4 := Ev1.out; have h5 := Eu2.out; have h6 := Ev2.out; have h7 := Eu3.out; have h8 := Ev3.out; have h9 := Eu4.out; have h10 := Ev4.out; subst_vars; rfl
  have Eyh : Hid (v3 + v4 = yh) := by have h0 := Fyh.out; have h1 := Ecc.out; have h2 := Ess.out; have h3 := Eu1.out; have h4 := Ev1.out; have h5 := Eu2.out; have h6 := Ev2.out; have h7 := Eu3.out; have h8 := Ev3.out; have h9 := Eu4.out; have h10 := Ev4.out; subst_vars; rfl
  go_enter Tryz.func49, Tryz.ntmps49
  go_wp2_with (first
      | ((with_reducible refine isBox ?_); refine bxA H ?_; clear H; intro _ _ H)
      | ((with_reducible refine isAlloc ?_); refine alA H ?_; clear H; intro _ _ H))
  refine wp_region_U 6 9 [.a, .a, .s] H (by kernel_rfl) (by kernel_rfl) (by kernel_rfl) (by decide) ?_
  simp only [List.take_succ_cons, List.take_zero, List.drop_succ_cons, List.drop_zero]
  repeat (first
      | ((with_reducible refine kLoad ?_); refine kldA H ?_))
  refine wpK_step (fun K hK => ?_)
  go_simp
  apply Exists.intro
  refine ⟨fun sx => ?_, hK _ ?_⟩
  · go_at_call 69
    exact turnCos_any o cc _ (by omega) Zo Ecc (H.out.tbx sx)
  clear hK K
  refine wpK_step (fun K hK => ?_)
  go_simp
  apply Exists.intro
  refine ⟨fun sx => ?_, hK _ ?_⟩
  · go_at_call 51
    exact spanOf_any (some cc) cc _ Scc rfl (H.out.tbx sx)
  clear hK K
  repeat (first
      | ((with_reducible refine kLoad ?_); refine kldA H ?_))
  refine wpK_step (fun K hK => ?_)
  go_simp
  apply Exists.intro
  refine ⟨fun sx => ?_, hK _ ?_⟩
  · go_at_call 70
    exact turnSin_any o ss _ (by omega) Zo Ess (H.out.tbx sx)
  clear hK K
  refine wpK_step (fun K hK => ?_)
  go_simp
  apply Exists.intro
  refine ⟨fun sx => ?_, hK _ ?_⟩
  · go_at_call 51
    exact spanOf_any (some ss) ss _ Sss rfl (H.out.tbx sx)
  clear hK K
  refine wpKeep_nil ?_
  refine wpL_A (by rfl) (by simp [Allocs, go_sem]; intro _ _; rfl) ?_
  intro _
  (simp only [Act.put, List.setIfInBounds_toArray, List.set_cons_succ, List.set_cons_zero])
  refine wpL_A (by rfl) (by simp [Allocs, go_sem]; intro _ _; rfl) ?_
  intro _
  (simp only [Act.put, List.setIfInBounds_toArray, List.set_cons_succ, List.set_cons_zero])
  refine wpL_S (by rfl) rfl rfl rfl (by (first | exact rRat | exact rSpan | exact rPose | exact rFrame | exact rVec | exact rTurn | exact rBox)) (by rfl) (by rfl) (by (repeat (first | apply Upd.head | apply Upd.tail | assumption))) (by rfl) (by (simp only [List.drop, List.take, List.nil_append, List.cons_append]); rfl) (by exact Nat.le_of_ble_eq_true rfl) (by rfl) ?_
  refine wpL_nil ?_
  clear H
  intro _ H
  go_wp2_with (first
      | ((with_reducible refine isStore ?_); refine stA H ?_; clear H; intro _ H))
  refine wp_region_T 14 H (by kernel_rfl) (by kernel_rfl) ?_
  simp only [List.take_succ_cons, List.take_zero, List.drop_succ_cons, List.drop_zero]
  repeat (first
      | ((with_reducible refine kLoad ?_); refine kldA H ?_))
  refine wpK_step (fun K hK => ?_)
  go_simp
  apply Exists.intro
  refine ⟨fun sx => ?_, hK _ ?_⟩
  · go_at_call 78
    exact spanMul_any (some cc) (some cc) cc cc a b p q u1 v1 _ (by omega) C A Eu1 Ev1 (H.out.tbx sx)
  clear hK K
  repeat (first
      | ((with_reducible refine kLoad ?_); refine kldA H ?_))
  refine wpK_step (fun K hK => ?_)
  go_simp
  apply Exists.intro
  refine ⟨fun sx => ?_, hK _ ?_⟩
  · go_at_call 78
    exact spanMul_any (some ss) (some ss) ss ss c d r s u2 v2 _ (by omega) D B Eu2 Ev2 (H.out.tbx sx)
  clear hK K
  refine wpK_step (fun K hK => ?_)
  go_simp
  apply Exists.intro
  refine ⟨fun sx => ?_, hK _ ?_⟩
  · go_at_call 50
    exact spanSub_any (some u1) (some v1) u1 v1 (some u2) (some v2) u2 v2 xl xh _ (by omega) M1 M2 Exl Exh (H.out.tbx sx)
  clear hK K
  repeat (first
      | ((with_reducible refine kLoad ?_); refine kldA H ?_))
  refine wpK_step (fun K hK => ?_)
  go_simp
  apply Exists.intro
  refine ⟨fun sx => ?_, hK _ ?_⟩
  · go_at_call 78
    exact spanMul_any (some ss) (some ss) ss ss a b p q u3 v3 _ (by omega) D A Eu3 Ev3 (H.out.tbx sx)
  clear hK K
  repeat (first
      | ((with_reducible refine kLoad ?_); refine kldA H ?_))
  refine wpK_step (fun K hK => ?_)
  go_simp
  apply Exists.intro
  refine ⟨fun sx => ?_, hK _ ?_⟩
  · go_at_call 78
    exact spanMul_any (some cc) (some cc) cc cc c d r s u4 v4 _ (by omega) C B Eu4 Ev4 (H.out.tbx sx)
  clear hK K
  refine wpK_step (fun K hK => ?_)
  go_simp
  apply Exists.intro
  refine ⟨fun sx => ?_, hK _ ?_⟩
  · go_at_call 52
    exact spanAdd_any (some u3) (some v3) u3 v3 (some u4) (some v4) u4 v4 yl yh _ (by omega) M3 M4 Eyl Eyh (H.out.tbx sx)
  clear hK K
  refine wpKeep_nil ?_
  clear H
  intro _ H
  go_wp2_with (first
      | ((with_reducible refine isStore ?_); refine stA H ?_; clear H; intro _ H))
  exact bodyPost_ret (results_HH H Tryz.results49 (by (first | exact rRat | exact rSpan | exact rPose | exact rFrame | exact rVec | exact rTurn | exact rBox)) (by (first | exact rRat | exact rSpan | exact rPose | exact rFrame | exact rVec | exact rTurn | exact rBox)) rfl (by (repeat (first | exact List.Mem.head _ | refine List.Mem.tail _ ?_ | assumption))) rfl (by (repeat (first | exact List.Mem.head _ | refine List.Mem.tail _ ?_ | assumption))) (by rfl) (by rfl)) rfl ⟨rfl, H.out.bel⟩
end Go.Proofs.YtolekonocbeekaaGreatDoor

namespace Go.Proofs.YtolekonocbeekaaGreatDoor
open Go.RowKit
set_option linter.unusedVariables false
set_option maxRecDepth 100000

set_option maxHeartbeats 4000000 in
theorem Grip_ok {i j k : Nat} (a1 b1 : Option Rat) (p1 q1 : Rat) (a2 b2 : Option Rat) (p2 q2 : Rat) (a3 b3 : Option Rat) (p3 q3 : Rat) (x : Option Rat) (y : Option Rat) (r : Option Rat) (tl : Rat) (th : Rat) (xl : Rat) (xh : Rat) (yl : Rat) (yh : Rat) (w : World) (hk : i ≤ 2300 ∧ k ≤ 3000 ∧ j ≤ 100) (A1 : Hid (Spn i a1 b1 p1 q1)) (A2 : Hid (Spn i a2 b2 p2 q2)) (A3 : Hid (Spn k a3 b3 p3 q3)) (Zx : Hid (SzO j x)) (Zy : Hid (SzO j y)) (Zr : Hid (SzO j r)) (G : Hid (tWide (-(valO r)) p3 q3 = false)) (Ftl : Hid (tvQ (-(valO r)) p3 = tl)) (Fth : Hid (tvQ (-(valO r)) q3 = th)) (Fxl : Hid (rtXL (-(valO r)) (p1 - valO x) (q1 - valO x) (p2 - valO y) (q2 - valO y) = xl)) (Fxh : Hid (rtXH (-(valO r)) (p1 - valO x) (q1 - valO x) (p2 - valO y) (q2 - valO y) = xh)) (Fyl : Hid (rtYL (-(valO r)) (p1 - valO x) (q1 - valO x) (p2 - valO y) (q2 - valO y) = yl)) (Fyh : Hid (rtYH (-(valO r)) (p1 - valO x) (q1 - valO x) (p2 - valO y) (q2 - valO y) = yh)) (hT : Tb w) :
    Calls Tryz.prog 25 #[.agg #[.bool (sgO a1), .string (nuO a1), .string (deO a1), .bool (sgO b1), .string (nuO b1), .string (deO b1), .bool (sgO a2), .string (nuO a2), .string (deO a2), .bool (sgO b2), .string (nuO b2), .string (deO b2), .bool (sgO a3), .string (nuO a3), .string (deO a3), .bool (sgO b3), .string (nuO b3), .string (deO b3)], .agg #[.bool (sgO x), .string (nuO x), .string (deO x), .bool (sgO y), .string (nuO y), .string (deO y), .bool false, .bool (sgO r), .string (nuO r), .string (deO r)]] w fun e w' => e = .returned (.tuple #[.agg #[.bool (sgO (some xl)), .string (nuO (some xl)), .string (deO (some xl)), .bool (sgO (some xh)), .string (nuO (some xh)), .string (deO (some xh)), .bool (sgO (some yl)), .string (nuO (some yl)), .string (deO (some yl)), .bool (sgO (some yh)), .string (nuO (some yh)), .string (deO (some yh)), .bool (sgO (some tl)), .string (nuO (some tl)), .string (deO (some tl)), .bool (sgO (some th)), .string (nuO (some th)), .string (deO (some th))], .int .i64 0]) ∧ Below w.heap.size w w' := by
  have H := Lib.hid (Hp.start hT)
  clear hT
  have Zp1 : Hid (Sz i p1) := A1.out.zp
  have Sp1 : Hid (SmO (some p1)) := Sz.o Zp1 (by omega)
  have Zq1 : Hid (Sz i q1) := A1.out.zq
  have Sq1 : Hid (SmO (some q1)) := Sz.o Zq1 (by omega)
  have Zp2 : Hid (Sz i p2) := A2.out.zp
  have Sp2 : Hid (SmO (some p2)) := Sz.o Zp2 (by omega)
  have Zq2 : Hid (Sz i q2) := A2.out.zq
  have Sq2 : Hid (SmO (some q2)) := Sz.o Zq2 (by omega)
  have Zp3 : Hid (Sz k p3) := A3.out.zp
  have Sp3 : Hid (SmO (some p3)) := Sz.o Zp3 (by omega)
  have Zq3 : Hid (Sz k q3) := A3.out.zq
  have Sq3 : Hid (SmO (some q3)) := Sz.o Zq3 (by omega)
  have Sx : Hid (SmO x) := SzO.sm Zx (by omega)
  have Sy : Hid (SmO y) := SzO.sm Zy (by omega)
  have Sr : Hid (SmO r) := SzO.sm Zr (by omega)
  obtain ⟨n, En⟩ : ∃ z : Rat, Hid (-(valO r) = z) := ⟨_, rfl⟩
  have Zn : Hid (Sz j n) := szEq En (Sz.neg Zr)
  have Sn : Hid (SmO (some n)) := Sz.o Zn (by omega)
  have G2 : Hid (tWide (valO (some n)) p3 q3 = false) := by have := En.out; subst this; exact G
  have Etl : Hid (tvQ (valO (some n)) p3 = tl) := by have h0 := Ftl.out; have h1 := En.out; subst_vars; rfl
  have Eth : Hid (tvQ (valO (some n)) q3 = th) := by have h0 := Fth.out; have h1 := En.out; subst_vars; rfl
  obtain ⟨vx, Evx⟩ : ∃ z : Rat, Hid (valO x = z) := ⟨_, rfl⟩
  have Zvx : Hid (Sz j vx) := szEq Evx (Zx)
  have Svx : Hid (SmO (some vx)) := Sz.o Zvx (by omega)
  have X : Hid (Spn j (some vx) (some vx) vx vx) := Spn.of Zvx (by omega)
  obtain ⟨d1, Ed1⟩ : ∃ z : Rat, Hid (p1 - vx = z) := ⟨_, rfl⟩
  obtain ⟨e1, Ee1⟩ : ∃ z : Rat, Hid (q1 - vx = z) := ⟨_, rfl⟩
  have D1 : Hid (Spn (i + j + 1) (some d1) (some e1) d1 e1) := Spn.sub A1.out X.out Ed1.out Ee1.out (by omega)
  have Zd1 : Hid (Sz (i + j + 1) d1) := D1.out.zp
  have Sd1 : Hid (SmO (some d1)) := Sz.o Zd1 (by omega)
  have Ze1 : Hid (Sz (i + j + 1) e1) := D1.out.zq
  have Se1 : Hid (SmO (some e1)) := Sz.o Ze1 (by omega)
  obtain ⟨vy, Evy⟩ : ∃ z : Rat, Hid (valO y = z) := ⟨_, rfl⟩
  have Zvy : Hid (Sz j vy) := szEq Evy (Zy)
  have Svy : Hid (SmO (some vy)) := Sz.o Zvy (by omega)
  have Y : Hid (Spn j (some vy) (some vy) vy vy) := Spn.of Zvy (by omega)
  obtain ⟨d2, Ed2⟩ : ∃ z : Rat, Hid (p2 - vy = z) := ⟨_, rfl⟩
  obtain ⟨e2, Ee2⟩ : ∃ z : Rat, Hid (q2 - vy = z) := ⟨_, rfl⟩
  have D2 : Hid (Spn (i + j + 1) (some d2) (some e2) d2 e2) := Spn.sub A2.out Y.out Ed2.out Ee2.out (by omega)
  have Zd2 : Hid (Sz (i + j + 1) d2) := D2.out.zp
  have Sd2 : Hid (SmO (some d2)) := Sz.o Zd2 (by omega)
  have Ze2 : Hid (Sz (i + j + 1) e2) := D2.out.zq
  have Se2 : Hid (SmO (some e2)) := Sz.o Ze2 (by omega)
  have Exl : Hid (rtXL (valO (some n)) d1 e1 d2 e2 = xl) := by have h0 := Fxl.out; have h1 := En.out; have h2 := Evx.out; have h3 := Ed1.out; have h4 := Ee1.out; have h5 := Evy.out; have h6 := Ed2.out; have h7 := Ee2.out; subst_vars; rfl
  have Exh : Hid (rtXH (valO (some n)) d1 e1 d2 e2 = xh) := by have h0 := Fxh.out; have h1 := En.out; have h2 := Evx.out; have h3 := Ed1.out; have h4 := Ee1.out; have h5 := Evy.out; have h6 := Ed2.out; have h7 := Ee2.out; subst_vars; rfl
  have Eyl : Hid (rtYL (valO (some n)) d1 e1 d2 e2 = yl) := by have h0 := Fyl.out; have h1 := En.out; have h2 := Evx.out; have h3 := Ed1.out; have h4 := Ee1.out; have h5 := Evy.out; have h6 := Ed2.out; have h7 := Ee2.out; subst_vars; rfl
  have Eyh : Hid (rtYH (valO (some n)) d1 e1 d2 e2 = yh) := by have h0 := Fyh.out; have h1 := En.out; have h2 := Evx.out; have h3 := Ed1.out; have h4 := Ee1.out; have h5 := Evy.out; have h6 := Ed2.out; have h7 := Ee2.out; subst_vars; rfl
  go_enter Tryz.func25, Tryz.ntmps25
  go_wp2_with (first
      | ((with_reducible refine isLoad ?_); refine ld1A H ?_)
      | ((with_reducible refine isBox ?_); refine bxA H ?_; clear H; intro _ _ H)
      | ((with_reducible refine isAlloc ?_); refine alA H ?_; clear H; intro _ _ H))
  refine wp_region_G (vs := [.bool (sgO (some tl)), .string (nuO (some tl)), .string (deO (some tl)), .bool (sgO (some th)), .string (nuO (some th)), .string (deO (some th))]) 10 H (by kernel_rfl) (by kernel_rfl) rfl rfl (by simp [Allocs, go_sem]; intro _ _; rfl) (by kernel_rfl) rfl rfl ?_
  simp only [List.take_succ_cons, List.take_zero, List.drop_succ_cons, List.drop_zero]
  repeat (first
      | ((with_reducible refine kLoad ?_); refine kldA H ?_)
      | ((fail_if_success (with_reducible refine kCall ?_)); (with_reducible refine kCons ?_); refine wpK_step (fun K hK => ?_); go_simp; refine hK _ ?_; clear hK K))
  refine wpK_step (fun K hK => ?_)
  go_simp
  apply Exists.intro
  refine ⟨fun sx => ?_, hK _ ?_⟩
  · go_at_call 48
    exact RNeg_any r n _ Sr En (H.out.tbx sx)
  clear hK K
  refine wpK_step (fun K hK => ?_)
  go_simp
  apply Exists.intro
  refine ⟨fun sx => ?_, hK _ ?_⟩
  · go_at_call 47
    exact turned_ok a3 b3 p3 q3 (some n) tl th _ (by omega) A3 Zn G2 Etl Eth (H.out.tbx sx)
  clear hK K
  repeat (first
      | ((fail_if_success (with_reducible refine kCall ?_)); (with_reducible refine kCons ?_); refine wpK_step (fun K hK => ?_); go_simp; refine hK _ ?_; clear hK K))
  refine wpKeep_nil ?_
  intro _
  (simp only [Act.put, List.setIfInBounds_toArray, List.set_cons_succ, List.set_cons_zero])
  refine ⟨⟨⟨_, _, _, rfl, by (first | exact rRat | exact rSpan | exact rPose | exact rFrame | exact rVec | exact rTurn | exact rBox), rfl, rfl⟩, rfl, rfl, rfl, rfl⟩, ?_⟩
  clear H
  intro _ H
  go_wp2_with (first
      | go_skip)
  refine wp_region_U 18 24 [.p, .p, .p, .a, .a, .s] H (by kernel_rfl) (by kernel_rfl) (by kernel_rfl) (by decide) ?_
  simp only [List.take_succ_cons, List.take_zero, List.drop_succ_cons, List.drop_zero]
  repeat (first
      | ((with_reducible refine kLoad ?_); refine kldA H ?_)
      | ((fail_if_success (with_reducible refine kCall ?_)); (with_reducible refine kCons ?_); refine wpK_step (fun K hK => ?_); go_simp; refine hK _ ?_; clear hK K))
  refine wpK_step (fun K hK => ?_)
  go_simp
  apply Exists.intro
  refine ⟨fun sx => ?_, hK _ ?_⟩
  · go_at_call 51
    exact spanOf_any x vx _ Sx Evx (H.out.tbx sx)
  clear hK K
  refine wpK_step (fun K hK => ?_)
  go_simp
  apply Exists.intro
  refine ⟨fun sx => ?_, hK _ ?_⟩
  · go_at_call 50
    exact spanSub_any a1 b1 p1 q1 (some vx) (some vx) vx vx d1 e1 _ (by omega) A1 X Ed1 Ee1 (H.out.tbx sx)
  clear hK K
  repeat (first
      | ((with_reducible refine kLoad ?_); refine kldA H ?_)
      | ((fail_if_success (with_reducible refine kCall ?_)); (with_reducible refine kCons ?_); refine wpK_step (fun K hK => ?_); go_simp; refine hK _ ?_; clear hK K))
  refine wpK_step (fun K hK => ?_)
  go_simp
  apply Exists.intro
  refine ⟨fun sx => ?_, hK _ ?_⟩
  · go_at_call 51
    exact spanOf_any y vy _ Sy Evy (H.out.tbx sx)
  clear hK K
  refine wpK_step (fun K hK => ?_)
  go_simp
  apply Exists.intro
  refine ⟨fun sx => ?_, hK _ ?_⟩
  · go_at_call 50
    exact spanSub_any a2 b2 p2 q2 (some vy) (some vy) vy vy d2 e2 _ (by omega) A2 Y Ed2 Ee2 (H.out.tbx sx)
  clear hK K
  repeat (first
      | ((with_reducible refine kLoad ?_); refine kldA H ?_)
      | ((fail_if_success (with_reducible refine kCall ?_)); (with_reducible refine kCons ?_); refine wpK_step (fun K hK => ?_); go_simp; refine hK _ ?_; clear hK K))
  refine wpK_step (fun K hK => ?_)
  go_simp
  apply Exists.intro
  refine ⟨fun sx => ?_, hK _ ?_⟩
  · go_at_call 34
    exact turnBack_any r n _ (by omega) Zr En (H.out.tbx sx)
  clear hK K
  refine wpK_step (fun K hK => ?_)
  go_simp
  apply Exists.intro
  refine ⟨fun sx => ?_, hK _ ?_⟩
  · go_at_call 49
    exact rotate_any (some d1) (some e1) d1 e1 (some d2) (some e2) d2 e2 (some n) xl xh yl yh _ (by omega) D1 D2 Zn Exl Exh Eyl Eyh (H.out.tbx sx)
  clear hK K
  refine wpKeep_nil ?_
  refine wpL_P (by rfl) (by (first | exact wanted_none rfl | exact wanted_some rfl rfl)) (by intro W; first | (go_simp; rfl) | go_simp) ?_
  (simp only [Act.put, List.setIfInBounds_toArray, List.set_cons_succ, List.set_cons_zero])
  refine wpL_P (by rfl) (by (first | exact wanted_none rfl | exact wanted_some rfl rfl)) (by intro W; first | (go_simp; rfl) | go_simp) ?_
  (simp only [Act.put, List.setIfInBounds_toArray, List.set_cons_succ, List.set_cons_zero])
  refine wpL_P (by rfl) (by (first | exact wanted_none rfl | exact wanted_some rfl rfl)) (by intro W; first | (go_simp; rfl) | go_simp) ?_
  (simp only [Act.put, List.setIfInBounds_toArray, List.set_cons_succ, List.set_cons_zero])
  refine wpL_A (by rfl) (by simp [Allocs, go_sem]; intro _ _; rfl) ?_
  intro _
  (simp only [Act.put, List.setIfInBounds_toArray, List.set_cons_succ, List.set_cons_zero])
  refine wpL_A (by rfl) (by simp [Allocs, go_sem]; intro _ _; rfl) ?_
  intro _
  (simp only [Act.put, List.setIfInBounds_toArray, List.set_cons_succ, List.set_cons_zero])
  refine wpL_S (by rfl) rfl rfl rfl (by (first | exact rRat | exact rSpan | exact rPose | exact rFrame | exact rVec | exact rTurn | exact rBox)) (by rfl) (by rfl) (by (repeat (first | apply Upd.head | apply Upd.tail | assumption))) (by rfl) (by (simp only [List.drop, List.take, List.nil_append, List.cons_append]); rfl) (by exact Nat.le_of_ble_eq_true rfl) (by rfl) ?_
  refine wpL_nil ?_
  clear H
  intro _ H
  go_wp2_with (first
      | ((with_reducible refine isLoad ?_); refine ldA H ?_)
      | ((with_reducible refine isStore ?_); refine stA H ?_; clear H; intro _ H))
  exact bodyPost_ret (results_Hv H Tryz.results25 (by (first | exact rRat | exact rSpan | exact rPose | exact rFrame | exact rVec | exact rTurn | exact rBox)) rfl (by (repeat (first | exact List.Mem.head _ | refine List.Mem.tail _ ?_ | assumption))) (by rfl) (by rfl)) rfl ⟨rfl, H.out.bel⟩

set_option maxHeartbeats 4000000 in
theorem Grip_wide {i j k : Nat} (a1 b1 : Option Rat) (p1 q1 : Rat) (a2 b2 : Option Rat) (p2 q2 : Rat) (a3 b3 : Option Rat) (p3 q3 : Rat) (x : Option Rat) (y : Option Rat) (r : Option Rat) (w : World) (hk : i ≤ 2300 ∧ k ≤ 3000 ∧ j ≤ 100) (A1 : Hid (Spn i a1 b1 p1 q1)) (A2 : Hid (Spn i a2 b2 p2 q2)) (A3 : Hid (Spn k a3 b3 p3 q3)) (Zx : Hid (SzO j x)) (Zy : Hid (SzO j y)) (Zr : Hid (SzO j r)) (G : Hid (tWide (-(valO r)) p3 q3 = true)) (hT : Tb w) :
    Calls Tryz.prog 25 #[.agg #[.bool (sgO a1), .string (nuO a1), .string (deO a1), .bool (sgO b1), .string (nuO b1), .string (deO b1), .bool (sgO a2), .string (nuO a2), .string (deO a2), .bool (sgO b2), .string (nuO b2), .string (deO b2), .bool (sgO a3), .string (nuO a3), .string (deO a3), .bool (sgO b3), .string (nuO b3), .string (deO b3)], .agg #[.bool (sgO x), .string (nuO x), .string (deO x), .bool (sgO y), .string (nuO y), .string (deO y), .bool false, .bool (sgO r), .string (nuO r), .string (deO r)]] w fun e w' => e = .returned (.tuple #[.agg #[.bool false, .string ⟨#[]⟩, .string ⟨#[]⟩, .bool false, .string ⟨#[]⟩, .string ⟨#[]⟩, .bool false, .string ⟨#[]⟩, .string ⟨#[]⟩, .bool false, .string ⟨#[]⟩, .string ⟨#[]⟩, .bool false, .string ⟨#[]⟩, .string ⟨#[]⟩, .bool false, .string ⟨#[]⟩, .string ⟨#[]⟩], .int .i64 18]) ∧ Below w.heap.size w w' := by
  have H := Lib.hid (Hp.start hT)
  clear hT
  have Zp1 : Hid (Sz i p1) := A1.out.zp
  have Sp1 : Hid (SmO (some p1)) := Sz.o Zp1 (by omega)
  have Zq1 : Hid (Sz i q1) := A1.out.zq
  have Sq1 : Hid (SmO (some q1)) := Sz.o Zq1 (by omega)
  have Zp2 : Hid (Sz i p2) := A2.out.zp
  have Sp2 : Hid (SmO (some p2)) := Sz.o Zp2 (by omega)
  have Zq2 : Hid (Sz i q2) := A2.out.zq
  have Sq2 : Hid (SmO (some q2)) := Sz.o Zq2 (by omega)
  have Zp3 : Hid (Sz k p3) := A3.out.zp
  have Sp3 : Hid (SmO (some p3)) := Sz.o Zp3 (by omega)
  have Zq3 : Hid (Sz k q3) := A3.out.zq
  have Sq3 : Hid (SmO (some q3)) := Sz.o Zq3 (by omega)
  have Sx : Hid (SmO x) := SzO.sm Zx (by omega)
  have Sy : Hid (SmO y) := SzO.sm Zy (by omega)
  have Sr : Hid (SmO r) := SzO.sm Zr (by omega)
  obtain ⟨n, En⟩ : ∃ z : Rat, Hid (-(valO r) = z) := ⟨_, rfl⟩
  have Zn : Hid (Sz j n) := szEq En (Sz.neg Zr)
  have Sn : Hid (SmO (some n)) := Sz.o Zn (by omega)
  have G2 : Hid (tWide (valO (some n)) p3 q3 = true) := by have := En.out; subst this; exact G
  go_enter Tryz.func25, Tryz.ntmps25
  go_wp2_with (first
      | ((with_reducible refine isLoad ?_); refine ld1A H ?_)
      | ((with_reducible refine isBox ?_); refine bxA H ?_; clear H; intro _ _ H)
      | ((with_reducible refine isAlloc ?_); refine alA H ?_; clear H; intro _ _ H))
  refine wp_region_G (vs := [.bool false, .string ⟨#[]⟩, .string ⟨#[]⟩, .bool false, .string ⟨#[]⟩, .string ⟨#[]⟩]) 10 H (by kernel_rfl) (by kernel_rfl) rfl rfl (by simp [Allocs, go_sem]; intro _ _; rfl) (by kernel_rfl) rfl rfl ?_
  simp only [List.take_succ_cons, List.take_zero, List.drop_succ_cons, List.drop_zero]
  repeat (first
      | ((with_reducible refine kLoad ?_); refine kldA H ?_)
      | ((fail_if_success (with_reducible refine kCall ?_)); (with_reducible refine kCons ?_); refine wpK_step (fun K hK => ?_); go_simp; refine hK _ ?_; clear hK K))
  refine wpK_step (fun K hK => ?_)
  go_simp
  apply Exists.intro
  refine ⟨fun sx => ?_, hK _ ?_⟩
  · go_at_call 48
    exact RNeg_any r n _ Sr En (H.out.tbx sx)
  clear hK K
  refine wpK_step (fun K hK => ?_)
  go_simp
  apply Exists.intro
  refine ⟨fun sx => ?_, hK _ ?_⟩
  · go_at_call 47
    exact turned_wide a3 b3 p3 q3 (some n) _ (by omega) A3 Zn G2 (H.out.tbx sx)
  clear hK K
  repeat (first
      | ((fail_if_success (with_reducible refine kCall ?_)); (with_reducible refine kCons ?_); refine wpK_step (fun K hK => ?_); go_simp; refine hK _ ?_; clear hK K))
  refine wpKeep_nil ?_
  intro _
  (simp only [Act.put, List.setIfInBounds_toArray, List.set_cons_succ, List.set_cons_zero])
  refine ⟨⟨⟨_, _, _, rfl, by (first | exact rRat | exact rSpan | exact rPose | exact rFrame | exact rVec | exact rTurn | exact rBox), rfl, rfl⟩, rfl, rfl, rfl, rfl⟩, ?_⟩
  clear H
  intro _ H
  go_wp2_with (first
      | ((with_reducible refine isStore ?_); refine stA H ?_; clear H; intro _ H))
  exact bodyPost_ret (results_Hv H Tryz.results25 (by (first | exact rRat | exact rSpan | exact rPose | exact rFrame | exact rVec | exact rTurn | exact rBox)) rfl (by (repeat (first | exact List.Mem.head _ | refine List.Mem.tail _ ?_ | assumption))) (by rfl) (by rfl)) rfl ⟨rfl, H.out.bel⟩
end Go.Proofs.YtolekonocbeekaaGreatDoor

namespace Go.Proofs.YtolekonocbeekaaGreatDoor
open Go.RowKit
set_option linter.unusedVariables false
set_option maxRecDepth 100000

set_option maxHeartbeats 4000000 in
theorem turnThen_any {j k : Nat} (a : Option Rat) (b : Option Rat) (t : Rat) (w : World) (hk : j + k ≤ 4000) (Za : Hid (SzO j a)) (Zb : Hid (SzO k b)) (Hd : Hid (((1 : Int) : Rat) - valO a * valO b ≠ 0)) (Ft : Hid ((valO a + valO b) / (((1 : Int) : Rat) - valO a * valO b) = t)) (hT : Tb w) :
    Calls Tryz.prog 33 #[.agg #[.bool false, .bool (sgO a), .string (nuO a), .string (deO a)], .agg #[.bool false, .bool (sgO b), .string (nuO b), .string (deO b)]] w fun e w' => e = .returned (.agg #[.bool false, .bool (sgO (some t)), .string (nuO (some t)), .string (deO (some t))]) ∧ Below w.heap.size w w' := by
  have H := Lib.hid (Hp.start hT)
  clear hT
  have Sa : Hid (SmO a) := SzO.sm Za (by omega)
  have Sb : Hid (SmO b) := SzO.sm Zb (by omega)
  obtain ⟨p, Ep⟩ : ∃ z : Rat, Hid (valO a = z) := ⟨_, rfl⟩
  have Zp : Hid (Sz j p) := szEq Ep (Za)
  have Sp : Hid (SmO (some p)) := Sz.o Zp (by omega)
  obtain ⟨q, Eq⟩ : ∃ z : Rat, Hid (valO b = z) := ⟨_, rfl⟩
  have Zq : Hid (Sz k q) := szEq Eq (Zb)
  have Sq : Hid (SmO (some q)) := Sz.o Zq (by omega)
  obtain ⟨s, Es⟩ : ∃ z : Rat, Hid (p + q = z) := ⟨_, rfl⟩
  have Zs : Hid (Sz (j + k + 1) s) := szEq Es (Sz.add Zp Zq)
  have Ss : Hid (SmO (some s)) := Sz.o Zs (by omega)
  obtain ⟨o, Eo⟩ : ∃ z : Rat, Hid (((1 : Int) : Rat) = z) := ⟨_, rfl⟩
  have Zo : Hid (Sz 3 o) := szEq Eo (Sz.int (1) (by decide))
  have So : Hid (SmO (some o)) := Sz.o Zo (by omega)
  obtain ⟨m, Em⟩ : ∃ z : Rat, Hid (p * q = z) := ⟨_, rfl⟩
  have Zm : Hid (Sz (j + k) m) := szEq Em (Sz.mul Zp Zq)
  have Sm : Hid (SmO (some m)) := Sz.o Zm (by omega)
  obtain ⟨d, Ed⟩ : ∃ z : Rat, Hid (o - m = z) := ⟨_, rfl⟩
  have Zd : Hid (Sz (3 + (j + k) + 1) d) := szEq Ed (Sz.sub Zo Zm)
  have Sd : Hid (SmO (some d)) := Sz.o Zd (by omega)
  have Nd : Hid (valO (some d) ≠ 0) := by have h0 := Hd.out; have h1 := Ep.out; have h2 := Eq.out; have h3 := Em.out; have h4 := Ed.out; have h5 := Eo.out; subst_vars; exact h0
  have Et : Hid (s / d = t) := by have h0 := Ft.out; have h1 := Ep.out; have h2 := Eq.out; have h3 := Es.out; have h4 := Eo.out; have h5 := Em.out; have h6 := Ed.out; subst_vars; rfl
  have Zt : Hid (Sz ((j + k + 1) + (3 + (j + k) + 1)) t) := szEq Et (Sz.div Zs Zd Nd)
  have St : Hid (SmO (some t)) := Sz.o Zt (by omega)
  have Et2 : Hid (valO (some t) = t) := rfl
  go_enter Tryz.func33, Tryz.ntmps33
  go_wp2_with (first
      | ((with_reducible refine isBox ?_); refine bxA H ?_; clear H; intro _ _ H)
      | ((with_reducible refine isAlloc ?_); refine alA H ?_; clear H; intro _ _ H))
  refine wp_region_T 4 H (by kernel_rfl) (by kernel_rfl) ?_
  simp only [List.take_succ_cons, List.take_zero, List.drop_succ_cons, List.drop_zero]
  repeat (first
      | ((with_reducible refine kLoad ?_); refine kldA H ?_))
  refine wpK_step (fun K hK => ?_)
  go_simp
  apply Exists.intro
  refine ⟨fun sx => ?_, hK _ ?_⟩
  · go_at_call 65
    exact turnFit_any a p _ (by omega) Za Ep (H.out.tbx sx)
  clear hK K
  repeat (first
      | ((with_reducible refine kLoad ?_); refine kldA H ?_))
  refine wpK_step (fun K hK => ?_)
  go_simp
  apply Exists.intro
  refine ⟨fun sx => ?_, hK _ ?_⟩
  · go_at_call 65
    exact turnFit_any b q _ (by omega) Zb Eq (H.out.tbx sx)
  clear hK K
  refine wpKeep_nil ?_
  clear H
  intro _ H
  go_wp2_with (first
      | go_skip
      | ((with_reducible refine isLoad ?_); refine ld1A H ?_)
      | ((with_reducible refine isStore ?_); refine stA H ?_; clear H; intro _ H))
  refine wp_region_G (vs := [.bool (sgO (some t)), .string (nuO (some t)), .string (deO (some t))]) 16 H (by kernel_rfl) (by kernel_rfl) rfl rfl (by simp [Allocs, go_sem]; intro _ _; rfl) (by kernel_rfl) rfl rfl ?_
  simp only [List.take_succ_cons, List.take_zero, List.drop_succ_cons, List.drop_zero]
  repeat (first
      | ((with_reducible refine kLoad ?_); refine kldA H ?_)
      | ((fail_if_success (with_reducible refine kCall ?_)); (with_reducible refine kCons ?_); refine wpK_step (fun K hK => ?_); go_simp; refine hK _ ?_; clear hK K))
  refine wpK_step (fun K hK => ?_)
  go_simp
  apply Exists.intro
  refine ⟨fun sx => ?_, hK _ ?_⟩
  · go_at_call 17
    exact RAdd_any (some p) (some q) s _ Sp Sq Es (H.out.tbx sx)
  clear hK K
  refine wpK_step (fun K hK => ?_)
  go_simp
  apply Exists.intro
  refine ⟨fun sx => ?_, hK _ ?_⟩
  · go_at_call 14
    exact ROf_any (1) o _ (by decide) (by decide) Eo (H.out.tbx sx)
  clear hK K
  repeat (first
      | ((with_reducible refine kLoad ?_); refine kldA H ?_)
      | ((fail_if_success (with_reducible refine kCall ?_)); (with_reducible refine kCons ?_); refine wpK_step (fun K hK => ?_); go_simp; refine hK _ ?_; clear hK K))
  refine wpK_step (fun K hK => ?_)
  go_simp
  apply Exists.intro
  refine ⟨fun sx => ?_, hK _ ?_⟩
  · go_at_call 18
    exact RMul_any (some p) (some q) m _ Sp Sq Em (H.out.tbx sx)
  clear hK K
  refine wpK_step (fun K hK => ?_)
  go_simp
  apply Exists.intro
  refine ⟨fun sx => ?_, hK _ ?_⟩
  · go_at_call 45
    exact RSub_any (some o) (some m) d _ So Sm Ed (H.out.tbx sx)
  clear hK K
  refine wpK_step (fun K hK => ?_)
  go_simp
  apply Exists.intro
  refine ⟨fun sx => ?_, hK _ ?_⟩
  · go_at_call 44
    exact RDiv_any (some s) (some d) t _ Ss Sd Nd Et (H.out.tbx sx)
  clear hK K
  repeat (first
      | ((fail_if_success (with_reducible refine kCall ?_)); (with_reducible refine kCons ?_); refine wpK_step (fun K hK => ?_); go_simp; refine hK _ ?_; clear hK K))
  refine wpKeep_nil ?_
  intro _
  (simp only [Act.put, List.setIfInBounds_toArray, List.set_cons_succ, List.set_cons_zero])
  refine ⟨⟨⟨_, _, _, rfl, by (first | exact rRat | exact rSpan | exact rPose | exact rFrame | exact rVec | exact rTurn | exact rBox), rfl, rfl⟩, rfl, rfl, rfl, rfl⟩, ?_⟩
  clear H
  intro _ H
  go_wp2_with (first
      | ((with_reducible refine isLoad ?_); refine ldA H ?_))
  refine (turnOf_any (some t) t _ (by omega) Zt Et2 H.out.tb).mono ?_
  rintro _ _ ⟨rfl, hb⟩
  replace H := Lib.hid (H.out.go hb)
  clear hb
  go_wp2_with (first
      | ((with_reducible refine isStore ?_); refine stA H ?_; clear H; intro _ H))
  exact bodyPost_ret (results_H H Tryz.results33 (by (first | exact rRat | exact rSpan | exact rPose | exact rFrame | exact rVec | exact rTurn | exact rBox)) rfl (by (repeat (first | exact List.Mem.head _ | refine List.Mem.tail _ ?_ | assumption))) (by rfl)) rfl ⟨rfl, H.out.bel⟩
end Go.Proofs.YtolekonocbeekaaGreatDoor

namespace Go.Proofs.YtolekonocbeekaaGreatDoor
open Go.RowKit
set_option linter.unusedVariables false
set_option maxRecDepth 100000

set_option maxHeartbeats 4000000 in
theorem vecAdd_any {j k : Nat} (a : Option Rat) (b : Option Rat) (c : Option Rat) (d : Option Rat) (u : Rat) (v : Rat) (w : World) (hk : j + k ≤ 8000) (Za : Hid (SzO j a)) (Zb : Hid (SzO j b)) (Zc : Hid (SzO k c)) (Zd : Hid (SzO k d)) (Eu : Hid ((valO a) + (valO c) = u)) (Ev : Hid ((valO b) + (valO d) = v)) (hT : Tb w) :
    Calls Tryz.prog 64 #[.agg #[.bool (sgO a), .string (nuO a), .string (deO a), .bool (sgO b), .string (nuO b), .string (deO b)], .agg #[.bool (sgO c), .string (nuO c), .string (deO c), .bool (sgO d), .string (nuO d), .string (deO d)]] w fun e w' => e = .returned (.agg #[.bool (sgO (some u)), .string (nuO (some u)), .string (deO (some u)), .bool (sgO (some v)), .string (nuO (some v)), .string (deO (some v))]) ∧ Below w.heap.size w w' := by
  have H := Lib.hid (Hp.start hT)
  clear hT
  have Sa : Hid (SmO a) := SzO.sm Za (by omega)
  have Sb : Hid (SmO b) := SzO.sm Zb (by omega)
  have Sc : Hid (SmO c) := SzO.sm Zc (by omega)
  have Sd : Hid (SmO d) := SzO.sm Zd (by omega)
  have Zu : Hid (Sz (j + k + 1) u) := szEq Eu (Sz.add Za Zc)
  have Su : Hid (SmO (some u)) := Sz.o Zu (by omega)
  have Zv : Hid (Sz (j + k + 1) v) := szEq Ev (Sz.add Zb Zd)
  have Sv : Hid (SmO (some v)) := Sz.o Zv (by omega)
  go_enter Tryz.func64, Tryz.ntmps64
  go_wp2_with (first
      | ((with_reducible refine isBox ?_); refine bxA H ?_; clear H; intro _ _ H)
      | ((with_reducible refine isAlloc ?_); refine alA H ?_; clear H; intro _ _ H))
  refine wp_region_T 11 H (by kernel_rfl) (by kernel_rfl) ?_
  simp only [List.take_succ_cons, List.take_zero, List.drop_succ_cons, List.drop_zero]
  repeat (first
      | ((with_reducible refine kLoad ?_); refine kldA H ?_)
      | ((fail_if_success (with_reducible refine kCall ?_)); (with_reducible refine kCons ?_); refine wpK_step (fun K hK => ?_); go_simp; refine hK _ ?_; clear hK K))
  refine wpK_step (fun K hK => ?_)
  go_simp
  apply Exists.intro
  refine ⟨fun sx => ?_, hK _ ?_⟩
  · go_at_call 17
    exact RAdd_any a c u _ Sa Sc Eu (H.out.tbx sx)
  clear hK K
  repeat (first
      | ((with_reducible refine kLoad ?_); refine kldA H ?_)
      | ((fail_if_success (with_reducible refine kCall ?_)); (with_reducible refine kCons ?_); refine wpK_step (fun K hK => ?_); go_simp; refine hK _ ?_; clear hK K))
  refine wpK_step (fun K hK => ?_)
  go_simp
  apply Exists.intro
  refine ⟨fun sx => ?_, hK _ ?_⟩
  · go_at_call 17
    exact RAdd_any b d v _ Sb Sd Ev (H.out.tbx sx)
  clear hK K
  repeat (first
      | ((fail_if_success (with_reducible refine kCall ?_)); (with_reducible refine kCons ?_); refine wpK_step (fun K hK => ?_); go_simp; refine hK _ ?_; clear hK K))
  refine wpKeep_nil ?_
  clear H
  intro _ H
  go_wp2_with (first
      | ((with_reducible refine isStore ?_); refine stA H ?_; clear H; intro _ H))
  exact bodyPost_ret (results_H H Tryz.results64 (by (first | exact rRat | exact rSpan | exact rPose | exact rFrame | exact rVec | exact rTurn | exact rBox)) rfl (by (repeat (first | exact List.Mem.head _ | refine List.Mem.tail _ ?_ | assumption))) (by rfl)) rfl ⟨rfl, H.out.bel⟩
end Go.Proofs.YtolekonocbeekaaGreatDoor

namespace Go.Proofs.YtolekonocbeekaaGreatDoor
open Go.RowKit
set_option linter.unusedVariables false
set_option maxRecDepth 100000

set_option maxHeartbeats 4000000 in
theorem vecSub_any {j k : Nat} (a : Option Rat) (b : Option Rat) (c : Option Rat) (d : Option Rat) (u : Rat) (v : Rat) (w : World) (hk : j + k ≤ 8000) (Za : Hid (SzO j a)) (Zb : Hid (SzO j b)) (Zc : Hid (SzO k c)) (Zd : Hid (SzO k d)) (Eu : Hid ((valO a) - (valO c) = u)) (Ev : Hid ((valO b) - (valO d) = v)) (hT : Tb w) :
    Calls Tryz.prog 36 #[.agg #[.bool (sgO a), .string (nuO a), .string (deO a), .bool (sgO b), .string (nuO b), .string (deO b)], .agg #[.bool (sgO c), .string (nuO c), .string (deO c), .bool (sgO d), .string (nuO d), .string (deO d)]] w fun e w' => e = .returned (.agg #[.bool (sgO (some u)), .string (nuO (some u)), .string (deO (some u)), .bool (sgO (some v)), .string (nuO (some v)), .string (deO (some v))]) ∧ Below w.heap.size w w' := by
  have H := Lib.hid (Hp.start hT)
  clear hT
  have Sa : Hid (SmO a) := SzO.sm Za (by omega)
  have Sb : Hid (SmO b) := SzO.sm Zb (by omega)
  have Sc : Hid (SmO c) := SzO.sm Zc (by omega)
  have Sd : Hid (SmO d) := SzO.sm Zd (by omega)
  have Zu : Hid (Sz (j + k + 1) u) := szEq Eu (Sz.sub Za Zc)
  have Su : Hid (SmO (some u)) := Sz.o Zu (by omega)
  have Zv : Hid (Sz (j + k + 1) v) := szEq Ev (Sz.sub Zb Zd)
  have Sv : Hid (SmO (some v)) := Sz.o Zv (by omega)
  go_enter Tryz.func36, Tryz.ntmps36
  go_wp2_with (first
      | ((with_reducible refine isBox ?_); refine bxA H ?_; clear H; intro _ _ H)
      | ((with_reducible refine isAlloc ?_); refine alA H ?_; clear H; intro _ _ H))
  refine wp_region_T 11 H (by kernel_rfl) (by kernel_rfl) ?_
  simp only [List.take_succ_cons, List.take_zero, List.drop_succ_cons, List.drop_zero]
  repeat (first
      | ((with_reducible refine kLoad ?_); refine kldA H ?_)
      | ((fail_if_success (with_reducible refine kCall ?_)); (with_reducible refine kCons ?_); refine wpK_step (fun K hK => ?_); go_simp; refine hK _ ?_; clear hK K))
  refine wpK_step (fun K hK => ?_)
  go_simp
  apply Exists.intro
  refine ⟨fun sx => ?_, hK _ ?_⟩
  · go_at_call 45
    exact RSub_any a c u _ Sa Sc Eu (H.out.tbx sx)
  clear hK K
  repeat (first
      | ((with_reducible refine kLoad ?_); refine kldA H ?_)
      | ((fail_if_success (with_reducible refine kCall ?_)); (with_reducible refine kCons ?_); refine wpK_step (fun K hK => ?_); go_simp; refine hK _ ?_; clear hK K))
  refine wpK_step (fun K hK => ?_)
  go_simp
  apply Exists.intro
  refine ⟨fun sx => ?_, hK _ ?_⟩
  · go_at_call 45
    exact RSub_any b d v _ Sb Sd Ev (H.out.tbx sx)
  clear hK K
  repeat (first
      | ((fail_if_success (with_reducible refine kCall ?_)); (with_reducible refine kCons ?_); refine wpK_step (fun K hK => ?_); go_simp; refine hK _ ?_; clear hK K))
  refine wpKeep_nil ?_
  clear H
  intro _ H
  go_wp2_with (first
      | ((with_reducible refine isStore ?_); refine stA H ?_; clear H; intro _ H))
  exact bodyPost_ret (results_H H Tryz.results36 (by (first | exact rRat | exact rSpan | exact rPose | exact rFrame | exact rVec | exact rTurn | exact rBox)) rfl (by (repeat (first | exact List.Mem.head _ | refine List.Mem.tail _ ?_ | assumption))) (by rfl)) rfl ⟨rfl, H.out.bel⟩
end Go.Proofs.YtolekonocbeekaaGreatDoor

namespace Go.Proofs.YtolekonocbeekaaGreatDoor
open Go.RowKit
set_option linter.unusedVariables false
set_option maxRecDepth 100000

theorem szrx {j k : Nat} {v x y : Rat} (h : Sz j v) (hx : Sz k x) (hy : Sz k y) : Sz (2 * k + 8 * j + 17) (rotX v x y) := ((hx.mul h.cosQ).sub (hy.mul h.sinQ)).mono (by omega)
theorem szry {j k : Nat} {v x y : Rat} (h : Sz j v) (hx : Sz k x) (hy : Sz k y) : Sz (2 * k + 8 * j + 17) (rotY v x y) := ((hx.mul h.sinQ).add (hy.mul h.cosQ)).mono (by omega)
set_option maxHeartbeats 4000000 in
theorem vecTurn_any {j k : Nat} (x : Option Rat) (y : Option Rat) (r : Option Rat) (u : Rat) (v : Rat) (w : World) (hk : k ≤ 4000 ∧ j ≤ 100) (Zx : Hid (SzO k x)) (Zy : Hid (SzO k y)) (Zr : Hid (SzO j r)) (Fu : Hid (rotX (valO r) (valO x) (valO y) = u)) (Fv : Hid (rotY (valO r) (valO x) (valO y) = v)) (hT : Tb w) :
    Calls Tryz.prog 35 #[.agg #[.bool (sgO x), .string (nuO x), .string (deO x), .bool (sgO y), .string (nuO y), .string (deO y)], .agg #[.bool false, .bool (sgO r), .string (nuO r), .string (deO r)]] w fun e w' => e = .returned (.agg #[.bool (sgO (some u)), .string (nuO (some u)), .string (deO (some u)), .bool (sgO (some v)), .string (nuO (some v)), .string (deO (some v))]) ∧ Below w.heap.size w w' := by
  have H := Lib.hid (Hp.start hT)
  clear hT
  have Sx : Hid (SmO x) := SzO.sm Zx (by omega)
  have Sy : Hid (SmO y) := SzO.sm Zy (by omega)
  have Sr : Hid (SmO r) := SzO.sm Zr (by omega)
  obtain ⟨c, Ec⟩ : ∃ z : Rat, Hid (cosQ (valO r) = z) := ⟨_, rfl⟩
  have Zc : Hid (Sz (4 * j + 8) c) := szEq Ec (Sz.cosQ Zr)
  have Sc : Hid (SmO (some c)) := Sz.o Zc (by omega)
  obtain ⟨s, Es⟩ : ∃ z : Rat, Hid (sinQ (valO r) = z) := ⟨_, rfl⟩
  have Zs : Hid (Sz (4 * j + 8) s) := szEq Es (Sz.sinQ Zr)
  have Ss : Hid (SmO (some s)) := Sz.o Zs (by omega)
  obtain ⟨m1, Em1⟩ : ∃ z : Rat, Hid ((valO x) * c = z) := ⟨_, rfl⟩
  have Zm1 : Hid (Sz (k + (4 * j + 8)) m1) := szEq Em1 (Sz.mul Zx Zc)
  have Sm1 : Hid (SmO (some m1)) := Sz.o Zm1 (by omega)
  obtain ⟨m2, Em2⟩ : ∃ z : Rat, Hid ((valO y) * s = z) := ⟨_, rfl⟩
  have Zm2 : Hid (Sz (k + (4 * j + 8)) m2) := szEq Em2 (Sz.mul Zy Zs)
  have Sm2 : Hid (SmO (some m2)) := Sz.o Zm2 (by omega)
  obtain ⟨m3, Em3⟩ : ∃ z : Rat, Hid ((valO x) * s = z) := ⟨_, rfl⟩
  have Zm3 : Hid (Sz (k + (4 * j + 8)) m3) := szEq Em3 (Sz.mul Zx Zs)
  have Sm3 : Hid (SmO (some m3)) := Sz.o Zm3 (by omega)
  obtain ⟨m4, Em4⟩ : ∃ z : Rat, Hid ((valO y) * c = z) := ⟨_, rfl⟩
  have Zm4 : Hid (Sz (k + (4 * j + 8)) m4) := szEq Em4 (Sz.mul Zy Zc)
  have Sm4 : Hid (SmO (some m4)) := Sz.o Zm4 (by omega)
  have Eu : Hid (m1 - m2 = u) := by have h0 := Fu.out; have h1 := Ec.out; have h2 := Es.out; have h3 := Em1.out; have h4 := Em2.out; have h5 := Em3.out; have h6 := Em4.out; subst_vars; rfl
  have Zu : Hid (Sz ((k + (4 * j + 8)) + (k + (4 * j + 8)) + 1) u) := szEq Eu (Sz.sub Zm1 Zm2)
  have Su : Hid (SmO (some u)) := Sz.o Zu (by omega)
  have Ev : Hid (m3 + m4 = v) := by have h0 := Fv.out; have h1 := Ec.out; have h2 := Es.out; have h3 := Em1.out; have h4 := Em2.out; have h5 := Em3.out; have h6 := Em4.out; subst_vars; rfl
  have Zv : Hid (Sz ((k + (4 * j + 8)) + (k + (4 * j + 8)) + 1) v) := szEq Ev (Sz.add Zm3 Zm4)
  have Sv : Hid (SmO (some v)) := Sz.o Zv (by omega)
  go_enter Tryz.func35, Tryz.ntmps35
  go_wp2_with (first
      | ((with_reducible refine isBox ?_); refine bxA H ?_; clear H; intro _ _ H)
      | ((with_reducible refine isAlloc ?_); refine alA H ?_; clear H; intro _ _ H))
  refine wp_region_F1 5 H (by kernel_rfl) (by kernel_rfl) rfl (by simp [Allocs, go_sem]; intro _ _; rfl) ?_
  simp only [List.take_succ_cons, List.take_zero, List.drop_succ_cons, List.drop_zero]
  repeat (first
      | ((with_reducible refine kLoad ?_); refine kldA H ?_))
  refine wpK_step (fun K hK => ?_)
  go_simp
  apply Exists.intro
  refine ⟨fun sx => ?_, hK _ ?_⟩
  · go_at_call 69
    exact turnCos_any r c _ (by omega) Zr Ec (H.out.tbx sx)
  clear hK K
  repeat (first
      | ((with_reducible refine kLoad ?_); refine kldA H ?_))
  refine wpK_step (fun K hK => ?_)
  go_simp
  apply Exists.intro
  refine ⟨fun sx => ?_, hK _ ?_⟩
  · go_at_call 70
    exact turnSin_any r s _ (by omega) Zr Es (H.out.tbx sx)
  clear hK K
  repeat (first
      | ((fail_if_success (with_reducible refine kCall ?_)); (with_reducible refine kCons ?_); refine wpK_step (fun K hK => ?_); go_simp; refine hK _ ?_; clear hK K))
  refine wpKeep_nil ?_
  clear H
  intro _ _ H
  (simp only [Act.put, List.setIfInBounds_toArray, List.set_cons_succ, List.set_cons_zero])
  go_wp2_with (first
      | ((with_reducible refine isStore ?_); refine stA H ?_; clear H; intro _ H))
  refine wp_region_T 23 H (by kernel_rfl) (by kernel_rfl) ?_
  simp only [List.take_succ_cons, List.take_zero, List.drop_succ_cons, List.drop_zero]
  repeat (first
      | ((with_reducible refine kLoad ?_); refine kldA H ?_)
      | ((fail_if_success (with_reducible refine kCall ?_)); (with_reducible refine kCons ?_); refine wpK_step (fun K hK => ?_); go_simp; refine hK _ ?_; clear hK K))
  refine wpK_step (fun K hK => ?_)
  go_simp
  apply Exists.intro
  refine ⟨fun sx => ?_, hK _ ?_⟩
  · go_at_call 18
    exact RMul_any x (some c) m1 _ Sx Sc Em1 (H.out.tbx sx)
  clear hK K
  repeat (first
      | ((with_reducible refine kLoad ?_); refine kldA H ?_)
      | ((fail_if_success (with_reducible refine kCall ?_)); (with_reducible refine kCons ?_); refine wpK_step (fun K hK => ?_); go_simp; refine hK _ ?_; clear hK K))
  refine wpK_step (fun K hK => ?_)
  go_simp
  apply Exists.intro
  refine ⟨fun sx => ?_, hK _ ?_⟩
  · go_at_call 18
    exact RMul_any y (some s) m2 _ Sy Ss Em2 (H.out.tbx sx)
  clear hK K
  refine wpK_step (fun K hK => ?_)
  go_simp
  apply Exists.intro
  refine ⟨fun sx => ?_, hK _ ?_⟩
  · go_at_call 45
    exact RSub_any (some m1) (some m2) u _ Sm1 Sm2 Eu (H.out.tbx sx)
  clear hK K
  repeat (first
      | ((with_reducible refine kLoad ?_); refine kldA H ?_)
      | ((fail_if_success (with_reducible refine kCall ?_)); (with_reducible refine kCons ?_); refine wpK_step (fun K hK => ?_); go_simp; refine hK _ ?_; clear hK K))
  refine wpK_step (fun K hK => ?_)
  go_simp
  apply Exists.intro
  refine ⟨fun sx => ?_, hK _ ?_⟩
  · go_at_call 18
    exact RMul_any x (some s) m3 _ Sx Ss Em3 (H.out.tbx sx)
  clear hK K
  repeat (first
      | ((with_reducible refine kLoad ?_); refine kldA H ?_)
      | ((fail_if_success (with_reducible refine kCall ?_)); (with_reducible refine kCons ?_); refine wpK_step (fun K hK => ?_); go_simp; refine hK _ ?_; clear hK K))
  refine wpK_step (fun K hK => ?_)
  go_simp
  apply Exists.intro
  refine ⟨fun sx => ?_, hK _ ?_⟩
  · go_at_call 18
    exact RMul_any y (some c) m4 _ Sy Sc Em4 (H.out.tbx sx)
  clear hK K
  refine wpK_step (fun K hK => ?_)
  go_simp
  apply Exists.intro
  refine ⟨fun sx => ?_, hK _ ?_⟩
  · go_at_call 17
    exact RAdd_any (some m3) (some m4) v _ Sm3 Sm4 Ev (H.out.tbx sx)
  clear hK K
  repeat (first
      | ((fail_if_success (with_reducible refine kCall ?_)); (with_reducible refine kCons ?_); refine wpK_step (fun K hK => ?_); go_simp; refine hK _ ?_; clear hK K))
  refine wpKeep_nil ?_
  clear H
  intro _ H
  go_wp2_with (first
      | ((with_reducible refine isStore ?_); refine stA H ?_; clear H; intro _ H))
  exact bodyPost_ret (results_H H Tryz.results35 (by (first | exact rRat | exact rSpan | exact rPose | exact rFrame | exact rVec | exact rTurn | exact rBox)) rfl (by (repeat (first | exact List.Mem.head _ | refine List.Mem.tail _ ?_ | assumption))) (by rfl)) rfl ⟨rfl, H.out.bel⟩
end Go.Proofs.YtolekonocbeekaaGreatDoor

namespace Go.Proofs.YtolekonocbeekaaGreatDoor
open Go.RowKit
set_option linter.unusedVariables false
set_option maxRecDepth 100000

set_option maxHeartbeats 4000000 in
theorem frameBack_any {j k : Nat} (x : Option Rat) (y : Option Rat) (r : Option Rat) (u : Rat) (v : Rat) (t : Rat) (w : World) (hk : k ≤ 1000 ∧ j ≤ 100) (Zx : Hid (SzO k x)) (Zy : Hid (SzO k y)) (Zr : Hid (SzO j r)) (Fu : Hid (rotX (-(valO r)) (((0 : Int) : Rat) - valO x) (((0 : Int) : Rat) - valO y) = u)) (Fv : Hid (rotY (-(valO r)) (((0 : Int) : Rat) - valO x) (((0 : Int) : Rat) - valO y) = v)) (Ft : Hid (-(valO r) = t)) (hT : Tb w) :
    Calls Tryz.prog 16 #[.agg #[.bool (sgO x), .string (nuO x), .string (deO x), .bool (sgO y), .string (nuO y), .string (deO y), .bool false, .bool (sgO r), .string (nuO r), .string (deO r)]] w fun e w' => e = .returned (.agg #[.bool (sgO (some u)), .string (nuO (some u)), .string (deO (some u)), .bool (sgO (some v)), .string (nuO (some v)), .string (deO (some v)), .bool false, .bool (sgO (some t)), .string (nuO (some t)), .string (deO (some t))]) ∧ Below w.heap.size w w' := by
  have H := Lib.hid (Hp.start hT)
  clear hT
  have Sx : Hid (SmO x) := SzO.sm Zx (by omega)
  have Sy : Hid (SmO y) := SzO.sm Zy (by omega)
  have Sr : Hid (SmO r) := SzO.sm Zr (by omega)
  obtain ⟨o, Eo⟩ : ∃ z : Rat, Hid (((0 : Int) : Rat) = z) := ⟨_, rfl⟩
  have Zo : Hid (Sz 3 o) := szEq Eo (Sz.int (0) (by decide))
  have So : Hid (SmO (some o)) := Sz.o Zo (by omega)
  obtain ⟨n, En⟩ : ∃ z : Rat, Hid (-(valO r) = z) := ⟨_, rfl⟩
  have Zn : Hid (Sz j n) := szEq En (Sz.neg Zr)
  have Sn : Hid (SmO (some n)) := Sz.o Zn (by omega)
  obtain ⟨p, Ep⟩ : ∃ z : Rat, Hid (o - (valO x) = z) := ⟨_, rfl⟩
  have Zp : Hid (Sz (3 + k + 1) p) := szEq Ep (Sz.sub Zo Zx)
  have Sp : Hid (SmO (some p)) := Sz.o Zp (by omega)
  obtain ⟨q, Eq⟩ : ∃ z : Rat, Hid (o - (valO y) = z) := ⟨_, rfl⟩
  have Zq : Hid (Sz (3 + k + 1) q) := szEq Eq (Sz.sub Zo Zy)
  have Sq : Hid (SmO (some q)) := Sz.o Zq (by omega)
  have Eu : Hid (rotX (valO (some n)) (valO (some p)) (valO (some q)) = u) := by have h0 := Fu.out; have h1 := Eo.out; have h2 := En.out; have h3 := Ep.out; have h4 := Eq.out; subst_vars; rfl
  have Ev : Hid (rotY (valO (some n)) (valO (some p)) (valO (some q)) = v) := by have h0 := Fv.out; have h1 := Eo.out; have h2 := En.out; have h3 := Ep.out; have h4 := Eq.out; subst_vars; rfl
  have Et : Hid (n = t) := by have h0 := Ft.out; have h1 := En.out; subst_vars; rfl
  go_enter Tryz.func16, Tryz.ntmps16
  go_wp2_with (first
      | ((with_reducible refine isLoad ?_); refine ldA H ?_)
      | ((with_reducible refine isBox ?_); refine bxA H ?_; clear H; intro _ _ H)
      | ((with_reducible refine isAlloc ?_); refine alA H ?_; clear H; intro _ _ H))
  refine (turnBack_any r n _ (by omega) Zr En H.out.tb).mono ?_
  rintro _ _ ⟨rfl, hb⟩
  replace H := Lib.hid (H.out.go hb)
  clear hb
  go_wp2_with (first
      | ((with_reducible refine isStore ?_); refine stA H ?_; clear H; intro _ H)
      | ((with_reducible refine isAlloc ?_); refine alA H ?_; clear H; intro _ _ H))
  refine wp_region_T 9 H (by kernel_rfl) (by kernel_rfl) ?_
  simp only [List.take_succ_cons, List.take_zero, List.drop_succ_cons, List.drop_zero]
  refine wpK_step (fun K hK => ?_)
  go_simp
  apply Exists.intro
  refine ⟨fun sx => ?_, hK _ ?_⟩
  · go_at_call 37
    exact frameZero_any (k := 3) o _ (by omega) Eo (H.out.tbx sx)
  clear hK K
  refine wpK_step (fun K hK => ?_)
  go_simp
  refine ⟨.agg #[.bool (sgO (some o)), .string (nuO (some o)), .string (deO (some o)), .bool (sgO (some o)), .string (nuO (some o)), .string (deO (some o))], fun sx => ?_, hK _ ?_⟩
  · have hf : (Instr.field 35 (.agg #[.bool (sgO (some o)), .string (nuO (some o)), .string (deO (some o)), .bool (sgO (some o)), .string (nuO (some o)), .string (deO (some o)), .bool false, .bool (sgO (some o)), .string (nuO (some o)), .string (deO (some o))]) 0).run Tryz.prog sx.to = .ok (.agg #[.bool (sgO (some o)), .string (nuO (some o)), .string (deO (some o)), .bool (sgO (some o)), .string (nuO (some o)), .string (deO (some o))]) sx.to := by kernel_rfl
    rw [hf]
    exact ⟨rfl, rfl⟩
  clear hK K
  repeat (first
      | ((with_reducible refine kLoad ?_); refine kldA H ?_)
      | ((fail_if_success (with_reducible refine kCall ?_)); (with_reducible refine kCons ?_); refine wpK_step (fun K hK => ?_); go_simp; refine hK _ ?_; clear hK K))
  refine wpK_step (fun K hK => ?_)
  go_simp
  apply Exists.intro
  refine ⟨fun sx => ?_, hK _ ?_⟩
  · go_at_call 36
    exact vecSub_any (some o) (some o) x y p q _ (by omega) Zo Zo Zx Zy Ep Eq (H.out.tbx sx)
  clear hK K
  repeat (first
      | ((with_reducible refine kLoad ?_); refine kldA H ?_))
  refine wpK_step (fun K hK => ?_)
  go_simp
  apply Exists.intro
  refine ⟨fun sx => ?_, hK _ ?_⟩
  · go_at_call 35
    exact vecTurn_any (some p) (some q) (some n) u v _ (by omega) Zp Zq Zn Eu Ev (H.out.tbx sx)
  clear hK K
  repeat (first
      | ((with_reducible refine kLoad ?_); refine kldA H ?_)
      | ((fail_if_success (with_reducible refine kCall ?_)); (with_reducible refine kCons ?_); refine wpK_step (fun K hK => ?_); go_simp; refine hK _ ?_; clear hK K))
  refine wpKeep_nil ?_
  clear H
  intro _ H
  go_wp2_with (first
      | ((with_reducible refine isStore ?_); refine stA H ?_; clear H; intro _ H))
  exact bodyPost_ret (results_H H Tryz.results16 (by (first | exact rRat | exact rSpan | exact rPose | exact rFrame | exact rVec | exact rTurn | exact rBox)) rfl (by (repeat (first | exact List.Mem.head _ | refine List.Mem.tail _ ?_ | assumption))) (by rfl)) rfl ⟨by rw [Et.out], H.out.bel⟩
end Go.Proofs.YtolekonocbeekaaGreatDoor

namespace Go.Proofs.YtolekonocbeekaaGreatDoor
open Go.RowKit
set_option linter.unusedVariables false
set_option maxRecDepth 100000

set_option maxHeartbeats 4000000 in
theorem framePut_any {i j k : Nat} (x : Option Rat) (y : Option Rat) (r : Option Rat) (a : Option Rat) (b : Option Rat) (u : Rat) (v : Rat) (w : World) (hk : i + 2 * k ≤ 7000 ∧ j ≤ 100) (Zx : Hid (SzO i x)) (Zy : Hid (SzO i y)) (Zr : Hid (SzO j r)) (Za : Hid (SzO k a)) (Zb : Hid (SzO k b)) (Fu : Hid (valO x + rotX (valO r) (valO a) (valO b) = u)) (Fv : Hid (valO y + rotY (valO r) (valO a) (valO b) = v)) (hT : Tb w) :
    Calls Tryz.prog 32 #[.agg #[.bool (sgO x), .string (nuO x), .string (deO x), .bool (sgO y), .string (nuO y), .string (deO y), .bool false, .bool (sgO r), .string (nuO r), .string (deO r)], .agg #[.bool (sgO a), .string (nuO a), .string (deO a), .bool (sgO b), .string (nuO b), .string (deO b)]] w fun e w' => e = .returned (.agg #[.bool (sgO (some u)), .string (nuO (some u)), .string (deO (some u)), .bool (sgO (some v)), .string (nuO (some v)), .string (deO (some v))]) ∧ Below w.heap.size w w' := by
  have H := Lib.hid (Hp.start hT)
  clear hT
  have Sx : Hid (SmO x) := SzO.sm Zx (by omega)
  have Sy : Hid (SmO y) := SzO.sm Zy (by omega)
  have Sr : Hid (SmO r) := SzO.sm Zr (by omega)
  have Sa : Hid (SmO a) := SzO.sm Za (by omega)
  have Sb : Hid (SmO b) := SzO.sm Zb (by omega)
  obtain ⟨m, Em⟩ : ∃ z : Rat, Hid (rotX (valO r) (valO a) (valO b) = z) := ⟨_, rfl⟩
  have Zm : Hid (Sz (2 * k + 8 * j + 17) m) := szEq Em (szrx Zr Za Zb)
  have Sm : Hid (SmO (some m)) := Sz.o Zm (by omega)
  obtain ⟨n, En⟩ : ∃ z : Rat, Hid (rotY (valO r) (valO a) (valO b) = z) := ⟨_, rfl⟩
  have Zn : Hid (Sz (2 * k + 8 * j + 17) n) := szEq En (szry Zr Za Zb)
  have Sn : Hid (SmO (some n)) := Sz.o Zn (by omega)
  have Eu : Hid ((valO x) + m = u) := by have h0 := Fu.out; have h1 := Em.out; have h2 := En.out; subst_vars; rfl
  have Zu : Hid (Sz (i + (2 * k + 8 * j + 17) + 1) u) := szEq Eu (Sz.add Zx Zm)
  have Su : Hid (SmO (some u)) := Sz.o Zu (by omega)
  have Ev : Hid ((valO y) + n = v) := by have h0 := Fv.out; have h1 := Em.out; have h2 := En.out; subst_vars; rfl
  have Zv : Hid (Sz (i + (2 * k + 8 * j + 17) + 1) v) := szEq Ev (Sz.add Zy Zn)
  have Sv : Hid (SmO (some v)) := Sz.o Zv (by omega)
  go_enter Tryz.func32, Tryz.ntmps32
  go_wp2_with (first
      | ((with_reducible refine isBox ?_); refine bxA H ?_; clear H; intro _ _ H)
      | ((with_reducible refine isAlloc ?_); refine alA H ?_; clear H; intro _ _ H))
  refine wp_region_T 7 H (by kernel_rfl) (by kernel_rfl) ?_
  simp only [List.take_succ_cons, List.take_zero, List.drop_succ_cons, List.drop_zero]
  repeat (first
      | ((with_reducible refine kLoad ?_); refine kldA H ?_)
      | ((fail_if_success (with_reducible refine kCall ?_)); (with_reducible refine kCons ?_); refine wpK_step (fun K hK => ?_); go_simp; refine hK _ ?_; clear hK K))
  refine wpK_step (fun K hK => ?_)
  go_simp
  apply Exists.intro
  refine ⟨fun sx => ?_, hK _ ?_⟩
  · go_at_call 35
    exact vecTurn_any a b r m n _ (by omega) Za Zb Zr Em En (H.out.tbx sx)
  clear hK K
  refine wpK_step (fun K hK => ?_)
  go_simp
  apply Exists.intro
  refine ⟨fun sx => ?_, hK _ ?_⟩
  · go_at_call 64
    exact vecAdd_any x y (some m) (some n) u v _ (by omega) Zx Zy Zm Zn Eu Ev (H.out.tbx sx)
  clear hK K
  refine wpKeep_nil ?_
  clear H
  intro _ H
  go_wp2_with (first
      | ((with_reducible refine isStore ?_); refine stA H ?_; clear H; intro _ H))
  exact bodyPost_ret (results_H H Tryz.results32 (by (first | exact rRat | exact rSpan | exact rPose | exact rFrame | exact rVec | exact rTurn | exact rBox)) rfl (by (repeat (first | exact List.Mem.head _ | refine List.Mem.tail _ ?_ | assumption))) (by rfl)) rfl ⟨rfl, H.out.bel⟩
end Go.Proofs.YtolekonocbeekaaGreatDoor

namespace Go.Proofs.YtolekonocbeekaaGreatDoor
open Go.RowKit
set_option linter.unusedVariables false
set_option maxRecDepth 100000

set_option maxHeartbeats 4000000 in
theorem frameThen_any {i j k m : Nat} (x : Option Rat) (y : Option Rat) (r : Option Rat) (a : Option Rat) (b : Option Rat) (t : Option Rat) (u v z : Rat) (w : World) (hk : i + 2 * k ≤ 7000 ∧ j ≤ 100 ∧ m ≤ 3000) (Zx : Hid (SzO i x)) (Zy : Hid (SzO i y)) (Zr : Hid (SzO j r)) (Za : Hid (SzO k a)) (Zb : Hid (SzO k b)) (Zt : Hid (SzO m t)) (Eu : Hid (valO x + rotX (valO r) (valO a) (valO b) = u)) (Ev : Hid (valO y + rotY (valO r) (valO a) (valO b) = v)) (Hd : Hid (((1 : Int) : Rat) - valO r * valO t ≠ 0)) (Ez : Hid ((valO r + valO t) / (((1 : Int) : Rat) - valO r * valO t) = z)) (hT : Tb w) :
    Calls Tryz.prog 15 #[.agg #[.bool (sgO x), .string (nuO x), .string (deO x), .bool (sgO y), .string (nuO y), .string (deO y), .bool false, .bool (sgO r), .string (nuO r), .string (deO r)], .agg #[.bool (sgO a), .string (nuO a), .string (deO a), .bool (sgO b), .string (nuO b), .string (deO b), .bool false, .bool (sgO t), .string (nuO t), .string (deO t)]] w fun e w' => e = .returned (.agg #[.bool (sgO (some u)), .string (nuO (some u)), .string (deO (some u)), .bool (sgO (some v)), .string (nuO (some v)), .string (deO (some v)), .bool false, .bool (sgO (some z)), .string (nuO (some z)), .string (deO (some z))]) ∧ Below w.heap.size w w' := by
  have H := Lib.hid (Hp.start hT)
  clear hT
  have Sx : Hid (SmO x) := SzO.sm Zx (by omega)
  have Sy : Hid (SmO y) := SzO.sm Zy (by omega)
  have Sr : Hid (SmO r) := SzO.sm Zr (by omega)
  have Sa : Hid (SmO a) := SzO.sm Za (by omega)
  have Sb : Hid (SmO b) := SzO.sm Zb (by omega)
  have St : Hid (SmO t) := SzO.sm Zt (by omega)
  go_enter Tryz.func15, Tryz.ntmps15
  go_wp2_with (first
      | ((with_reducible refine isBox ?_); refine bxA H ?_; clear H; intro _ _ H)
      | ((with_reducible refine isAlloc ?_); refine alA H ?_; clear H; intro _ _ H))
  refine wp_region_T 10 H (by kernel_rfl) (by kernel_rfl) ?_
  simp only [List.take_succ_cons, List.take_zero, List.drop_succ_cons, List.drop_zero]
  repeat (first
      | ((with_reducible refine kLoad ?_); refine kldA H ?_)
      | ((fail_if_success (with_reducible refine kCall ?_)); (with_reducible refine kCons ?_); refine wpK_step (fun K hK => ?_); go_simp; refine hK _ ?_; clear hK K))
  refine wpK_step (fun K hK => ?_)
  go_simp
  apply Exists.intro
  refine ⟨fun sx => ?_, hK _ ?_⟩
  · go_at_call 32
    exact framePut_any x y r a b u v _ (by omega) Zx Zy Zr Za Zb Eu Ev (H.out.tbx sx)
  clear hK K
  repeat (first
      | ((with_reducible refine kLoad ?_); refine kldA H ?_)
      | ((fail_if_success (with_reducible refine kCall ?_)); (with_reducible refine kCons ?_); refine wpK_step (fun K hK => ?_); go_simp; refine hK _ ?_; clear hK K))
  refine wpK_step (fun K hK => ?_)
  go_simp
  apply Exists.intro
  refine ⟨fun sx => ?_, hK _ ?_⟩
  · go_at_call 33
    exact turnThen_any r t z _ (by omega) Zr Zt Hd Ez (H.out.tbx sx)
  clear hK K
  repeat (first
      | ((fail_if_success (with_reducible refine kCall ?_)); (with_reducible refine kCons ?_); refine wpK_step (fun K hK => ?_); go_simp; refine hK _ ?_; clear hK K))
  refine wpKeep_nil ?_
  clear H
  intro _ H
  go_wp2_with (first
      | ((with_reducible refine isStore ?_); refine stA H ?_; clear H; intro _ H))
  exact bodyPost_ret (results_H H Tryz.results15 (by (first | exact rRat | exact rSpan | exact rPose | exact rFrame | exact rVec | exact rTurn | exact rBox)) rfl (by (repeat (first | exact List.Mem.head _ | refine List.Mem.tail _ ?_ | assumption))) (by rfl)) rfl ⟨rfl, H.out.bel⟩
end Go.Proofs.YtolekonocbeekaaGreatDoor

namespace Go.Proofs.YtolekonocbeekaaGreatDoor
open Go.RowKit
set_option linter.unusedVariables false
set_option maxRecDepth 100000

theorem cmpQ_sgn {d : Rat} : (cmpQ d 0 = -1 ∧ d < 0) ∨ (cmpQ d 0 = 0 ∧ d = 0) ∨ (cmpQ d 0 = 1 ∧ 0 < d) := by
  unfold cmpQ
  by_cases h : d < 0
  · exact .inl ⟨if_pos h, h⟩
  · rw [if_neg h]
    by_cases h2 : 0 < d
    · exact .inr (.inr ⟨if_pos h2, h2⟩)
    · exact .inr (.inl ⟨if_neg h2, Rat.le_antisymm (Rat.not_lt.1 h2) (Rat.not_lt.1 h)⟩)
/-- Not wide: the denominators have the same sign. -/
theorem tWide_no {a p q : Rat} (h : tWide a p q = false) : (0 < tdQ a p ∧ 0 < tdQ a q) ∨ (tdQ a p < 0 ∧ tdQ a q < 0) := by
  have h := of_decide_eq_false h
  rcases cmpQ_sgn (d := tdQ a p) with ⟨e1, h1⟩ | ⟨e1, h1⟩ | ⟨e1, h1⟩ <;> rcases cmpQ_sgn (d := tdQ a q) with ⟨e2, h2⟩ | ⟨e2, h2⟩ | ⟨e2, h2⟩ <;> rw [e1, e2] at h <;> first | exact .inl ⟨h1, h2⟩ | exact .inr ⟨h1, h2⟩ | exact absurd (by decide) h
theorem tWide_yes {a p q : Rat} (h : (0 < tdQ a p ∧ 0 < tdQ a q) ∨ (tdQ a p < 0 ∧ tdQ a q < 0)) : tWide a p q = false := by
  refine decide_eq_false ?_
  rcases cmpQ_sgn (d := tdQ a p) with ⟨e1, h1⟩ | ⟨e1, h1⟩ | ⟨e1, h1⟩ <;> rcases cmpQ_sgn (d := tdQ a q) with ⟨e2, h2⟩ | ⟨e2, h2⟩ | ⟨e2, h2⟩ <;> rw [e1, e2] <;> first | decide | (exfalso; grind)
theorem one_eq : ((1 : Int) : Rat) = 1 := rfl
/-- Between two values the denominator has the sign of both. -/
theorem tdQ_btw {a p q t : Rat} (h : (0 < tdQ a p ∧ 0 < tdQ a q) ∨ (tdQ a p < 0 ∧ tdQ a q < 0)) (h1 : p ≤ t) (h2 : t ≤ q) : (0 < tdQ a p ∧ 0 < tdQ a t ∧ 0 < tdQ a q) ∨ (tdQ a p < 0 ∧ tdQ a t < 0 ∧ tdQ a q < 0) := by
  unfold tdQ at h ⊢
  rw [one_eq] at h ⊢
  have hp : 0 ≤ t - p := by grind
  have hq : 0 ≤ q - t := by grind
  rcases (Rat.le_total : (0 : Rat) ≤ a ∨ a ≤ 0) with ha | ha
  · have g1 := Rat.mul_nonneg ha hp
    have g2 := Rat.mul_nonneg ha hq
    grind
  · have ha : 0 ≤ -a := by grind
    have g1 := Rat.mul_nonneg ha hp
    have g2 := Rat.mul_nonneg ha hq
    grind
theorem tvQ_mul {a t : Rat} (h : tdQ a t ≠ 0) : tvQ a t * tdQ a t = t + a := Rat.div_mul_cancel h
theorem pos_of_mul {x y : Rat} (hy : 0 < y) (h : 0 ≤ x * y) : 0 ≤ x := by
  apply Rat.not_lt.1
  intro hlt
  have := Rat.mul_pos (show 0 < -x by grind) hy
  grind
theorem tvQ_le {a t u : Rat} (h : (0 < tdQ a t ∧ 0 < tdQ a u) ∨ (tdQ a t < 0 ∧ tdQ a u < 0)) (h1 : t ≤ u) : tvQ a t ≤ tvQ a u := by
  have e1 := tvQ_mul (a := a) (t := t) (by grind)
  have e2 := tvQ_mul (a := a) (t := u) (by grind)
  have hp : 0 < tdQ a t * tdQ a u := by
    rcases h with ⟨x, y⟩ | ⟨x, y⟩
    · exact Rat.mul_pos x y
    · have := Rat.mul_pos (show 0 < -tdQ a t by grind) (show 0 < -tdQ a u by grind)
      grind
  have key : (tvQ a u - tvQ a t) * (tdQ a t * tdQ a u) = (u - t) * (1 + a * a) := by
    have : (tvQ a u - tvQ a t) * (tdQ a t * tdQ a u) = (tvQ a u * tdQ a u) * tdQ a t - (tvQ a t * tdQ a t) * tdQ a u := by grind
    rw [this, e1, e2]
    unfold tdQ
    rw [one_eq]
    grind
  have h3 := Rat.mul_nonneg (show 0 ≤ u - t by grind) (show 0 ≤ 1 + a * a by have := sq_nn a; grind)
  rw [← key] at h3
  have := pos_of_mul hp h3
  grind
theorem tv_btw {a p q t : Rat} (h : tWide a p q = false) (h1 : p ≤ t) (h2 : t ≤ q) : tdQ a t ≠ 0 ∧ tvQ a p ≤ tvQ a t ∧ tvQ a t ≤ tvQ a q := by
  have hb := tdQ_btw (tWide_no h) h1 h2
  exact ⟨by grind, tvQ_le (by grind) h1, tvQ_le (by grind) h2⟩
theorem Spn.tv {j k : Nat} {a b : Option Rat} {p q r : Rat} (A : Spn k a b p q) (zr : Sz j r) (h : tWide r p q = false) (hk : 2 * (j + k) + 5 ≤ 10000) : Spn (2 * (j + k) + 5) (some (tvQ r p)) (some (tvQ r q)) (tvQ r p) (tvQ r q) := by
  have h1 := tv_btw h Rat.le_refl A.le
  have h2 := tv_btw h A.le Rat.le_refl
  exact Spn.two (tvQ_sz zr A.zp h1.1) (tvQ_sz zr A.zq h2.1) h1.2.2 hk
theorem Spn.rx {j k : Nat} {a b c d : Option Rat} {p q r s o : Rat} (A : Spn k a b p q) (B : Spn k c d r s) (zo : Sz j o) (hk : 2 * k + 8 * j + 17 ≤ 10000) : Spn (2 * k + 8 * j + 17) (some (rtXL o p q r s)) (some (rtXH o p q r s)) (rtXL o p q r s) (rtXH o p q r s) :=
  (Spn.sub (Spn.mul (Spn.of zo.cosQ (by omega)) A rfl rfl (by omega)) (Spn.mul (Spn.of zo.sinQ (by omega)) B rfl rfl (by omega)) rfl rfl (by omega)).mono (by omega)
theorem Spn.ry {j k : Nat} {a b c d : Option Rat} {p q r s o : Rat} (A : Spn k a b p q) (B : Spn k c d r s) (zo : Sz j o) (hk : 2 * k + 8 * j + 17 ≤ 10000) : Spn (2 * k + 8 * j + 17) (some (rtYL o p q r s)) (some (rtYH o p q r s)) (rtYL o p q r s) (rtYH o p q r s) :=
  (Spn.add (Spn.mul (Spn.of zo.sinQ (by omega)) A rfl rfl (by omega)) (Spn.mul (Spn.of zo.cosQ (by omega)) B rfl rfl (by omega)) rfl rfl (by omega)).mono (by omega)
end Go.Proofs.YtolekonocbeekaaGreatDoor

namespace Go.Proofs.YtolekonocbeekaaGreatDoor
open Go.RowKit
set_option linter.unusedVariables false
set_option maxRecDepth 100000

set_option maxHeartbeats 4000000 in
theorem Put_ok {i j k : Nat} (a1 b1 : Option Rat) (p1 q1 : Rat) (a2 b2 : Option Rat) (p2 q2 : Rat) (a3 b3 : Option Rat) (p3 q3 : Rat) (x : Option Rat) (y : Option Rat) (r : Option Rat) (tl : Rat) (th : Rat) (xl : Rat) (xh : Rat) (yl : Rat) (yh : Rat) (w : World) (hk : i ≤ 2300 ∧ k ≤ 3000 ∧ j ≤ 100) (A1 : Hid (Spn i a1 b1 p1 q1)) (A2 : Hid (Spn i a2 b2 p2 q2)) (A3 : Hid (Spn k a3 b3 p3 q3)) (Zx : Hid (SzO j x)) (Zy : Hid (SzO j y)) (Zr : Hid (SzO j r)) (G : Hid (tWide (valO r) p3 q3 = false)) (Ftl : Hid (tvQ (valO r) p3 = tl)) (Fth : Hid (tvQ (valO r) q3 = th)) (Fxl : Hid (rtXL (valO r) p1 q1 p2 q2 + valO x = xl)) (Fxh : Hid (rtXH (valO r) p1 q1 p2 q2 + valO x = xh)) (Fyl : Hid (rtYL (valO r) p1 q1 p2 q2 + valO y = yl)) (Fyh : Hid (rtYH (valO r) p1 q1 p2 q2 + valO y = yh)) (hT : Tb w) :
    Calls Tryz.prog 26 #[.agg #[.bool (sgO a1), .string (nuO a1), .string (deO a1), .bool (sgO b1), .string (nuO b1), .string (deO b1), .bool (sgO a2), .string (nuO a2), .string (deO a2), .bool (sgO b2), .string (nuO b2), .string (deO b2), .bool (sgO a3), .string (nuO a3), .string (deO a3), .bool (sgO b3), .string (nuO b3), .string (deO b3)], .agg #[.bool (sgO x), .string (nuO x), .string (deO x), .bool (sgO y), .string (nuO y), .string (deO y), .bool false, .bool (sgO r), .string (nuO r), .string (deO r)]] w fun e w' => e = .returned (.tuple #[.agg #[.bool (sgO (some xl)), .string (nuO (some xl)), .string (deO (some xl)), .bool (sgO (some xh)), .string (nuO (some xh)), .string (deO (some xh)), .bool (sgO (some yl)), .string (nuO (some yl)), .string (deO (some yl)), .bool (sgO (some yh)), .string (nuO (some yh)), .string (deO (some yh)), .bool (sgO (some tl)), .string (nuO (some tl)), .string (deO (some tl)), .bool (sgO (some th)), .string (nuO (some th)), .string (deO (some th))], .int .i64 0]) ∧ Below w.heap.size w w' := by
  have H := Lib.hid (Hp.start hT)
  clear hT
  have Zp1 : Hid (Sz i p1) := A1.out.zp
  have Sp1 : Hid (SmO (some p1)) := Sz.o Zp1 (by omega)
  have Zq1 : Hid (Sz i q1) := A1.out.zq
  have Sq1 : Hid (SmO (some q1)) := Sz.o Zq1 (by omega)
  have Zp2 : Hid (Sz i p2) := A2.out.zp
  have Sp2 : Hid (SmO (some p2)) := Sz.o Zp2 (by omega)
  have Zq2 : Hid (Sz i q2) := A2.out.zq
  have Sq2 : Hid (SmO (some q2)) := Sz.o Zq2 (by omega)
  have Zp3 : Hid (Sz k p3) := A3.out.zp
  have Sp3 : Hid (SmO (some p3)) := Sz.o Zp3 (by omega)
  have Zq3 : Hid (Sz k q3) := A3.out.zq
  have Sq3 : Hid (SmO (some q3)) := Sz.o Zq3 (by omega)
  have Sx : Hid (SmO x) := SzO.sm Zx (by omega)
  have Sy : Hid (SmO y) := SzO.sm Zy (by omega)
  have Sr : Hid (SmO r) := SzO.sm Zr (by omega)
  have Etl : Hid (tvQ (valO r) p3 = tl) := by have h0 := Ftl.out; subst_vars; rfl
  have Eth : Hid (tvQ (valO r) q3 = th) := by have h0 := Fth.out; subst_vars; rfl
  obtain ⟨rl, Erl⟩ : ∃ z : Rat, Hid (rtXL (valO r) p1 q1 p2 q2 = z) := ⟨_, rfl⟩
  obtain ⟨rh, Erh⟩ : ∃ z : Rat, Hid (rtXH (valO r) p1 q1 p2 q2 = z) := ⟨_, rfl⟩
  obtain ⟨sl, Esl⟩ : ∃ z : Rat, Hid (rtYL (valO r) p1 q1 p2 q2 = z) := ⟨_, rfl⟩
  obtain ⟨sh, Esh⟩ : ∃ z : Rat, Hid (rtYH (valO r) p1 q1 p2 q2 = z) := ⟨_, rfl⟩
  have RX : Hid (Spn (2 * i + 8 * j + 17) (some rl) (some rh) rl rh) := by have h1 := Erl.out; have h2 := Erh.out; rw [← h1, ← h2]; exact Spn.rx A1.out A2.out Zr (by omega)
  have RY : Hid (Spn (2 * i + 8 * j + 17) (some sl) (some sh) sl sh) := by have h1 := Esl.out; have h2 := Esh.out; rw [← h1, ← h2]; exact Spn.ry A1.out A2.out Zr (by omega)
  obtain ⟨vx, Evx⟩ : ∃ z : Rat, Hid (valO x = z) := ⟨_, rfl⟩
  have Zvx : Hid (Sz j vx) := szEq Evx (Zx)
  have Svx : Hid (SmO (some vx)) := Sz.o Zvx (by omega)
  have X : Hid (Spn j (some vx) (some vx) vx vx) := Spn.of Zvx (by omega)
  have Exl : Hid (rl + vx = xl) := by have h0 := Fxl.out; have h1 := Erl.out; have h2 := Erh.out; have h3 := Esl.out; have h4 := Esh.out; have h5 := Evx.out; subst_vars; rfl
  have Exh : Hid (rh + vx = xh) := by have h0 := Fxh.out; have h1 := Erl.out; have h2 := Erh.out; have h3 := Esl.out; have h4 := Esh.out; have h5 := Evx.out; subst_vars; rfl
  obtain ⟨vy, Evy⟩ : ∃ z : Rat, Hid (valO y = z) := ⟨_, rfl⟩
  have Zvy : Hid (Sz j vy) := szEq Evy (Zy)
  have Svy : Hid (SmO (some vy)) := Sz.o Zvy (by omega)
  have Y : Hid (Spn j (some vy) (some vy) vy vy) := Spn.of Zvy (by omega)
  have Eyl : Hid (sl + vy = yl) := by have h0 := Fyl.out; have h1 := Erl.out; have h2 := Erh.out; have h3 := Esl.out; have h4 := Esh.out; have h5 := Evx.out; have h6 := Evy.out; subst_vars; rfl
  have Eyh : Hid (sh + vy = yh) := by have h0 := Fyh.out; have h1 := Erl.out; have h2 := Erh.out; have h3 := Esl.out; have h4 := Esh.out; have h5 := Evx.out; have h6 := Evy.out; subst_vars; rfl
  go_enter Tryz.func26, Tryz.ntmps26
  go_wp2_with (first
      | ((with_reducible refine isLoad ?_); refine ldA H ?_)
      | ((with_reducible refine isLoad ?_); refine ld1A H ?_)
      | ((with_reducible refine isBox ?_); refine bxA H ?_; clear H; intro _ _ H)
      | ((with_reducible refine isAlloc ?_); refine alA H ?_; clear H; intro _ _ H))
  refine (turned_ok a3 b3 p3 q3 r tl th _ (by omega) A3 Zr G Etl Eth H.out.tb).mono ?_
  rintro _ _ ⟨rfl, hb⟩
  replace H := Lib.hid (H.out.go hb)
  clear hb
  go_wp2_with (first
      | ((with_reducible refine isLoad ?_); refine ldA H ?_)
      | ((with_reducible refine isStore ?_); refine stA H ?_; clear H; intro _ H)
      | ((with_reducible refine isAlloc ?_); refine alA H ?_; clear H; intro _ _ H))
  refine (rotate_any a1 b1 p1 q1 a2 b2 p2 q2 r rl rh sl sh _ (by omega) A1 A2 Zr Erl Erh Esl Esh H.out.tb).mono ?_
  rintro _ _ ⟨rfl, hb⟩
  replace H := Lib.hid (H.out.go hb)
  clear hb
  go_wp2_with (first
      | ((with_reducible refine isStore ?_); refine stA H ?_; clear H; intro _ H)
      | ((with_reducible refine isAlloc ?_); refine alA H ?_; clear H; intro _ _ H))
  refine wp_region_U 14 15 [.s] H (by kernel_rfl) (by kernel_rfl) (by kernel_rfl) (by decide) ?_
  simp only [List.take_succ_cons, List.take_zero, List.drop_succ_cons, List.drop_zero]
  repeat (first
      | ((with_reducible refine kLoad ?_); refine kldA H ?_)
      | ((fail_if_success (with_reducible refine kCall ?_)); (with_reducible refine kCons ?_); refine wpK_step (fun K hK => ?_); go_simp; refine hK _ ?_; clear hK K))
  refine wpK_step (fun K hK => ?_)
  go_simp
  apply Exists.intro
  refine ⟨fun sx => ?_, hK _ ?_⟩
  · go_at_call 51
    exact spanOf_any x vx _ Sx Evx (H.out.tbx sx)
  clear hK K
  refine wpK_step (fun K hK => ?_)
  go_simp
  apply Exists.intro
  refine ⟨fun sx => ?_, hK _ ?_⟩
  · go_at_call 52
    exact spanAdd_any (some rl) (some rh) rl rh (some vx) (some vx) vx vx xl xh _ (by omega) RX X Exl Exh (H.out.tbx sx)
  clear hK K
  repeat (first
      | ((with_reducible refine kLoad ?_); refine kldA H ?_)
      | ((fail_if_success (with_reducible refine kCall ?_)); (with_reducible refine kCons ?_); refine wpK_step (fun K hK => ?_); go_simp; refine hK _ ?_; clear hK K))
  refine wpK_step (fun K hK => ?_)
  go_simp
  apply Exists.intro
  refine ⟨fun sx => ?_, hK _ ?_⟩
  · go_at_call 51
    exact spanOf_any y vy _ Sy Evy (H.out.tbx sx)
  clear hK K
  refine wpK_step (fun K hK => ?_)
  go_simp
  apply Exists.intro
  refine ⟨fun sx => ?_, hK _ ?_⟩
  · go_at_call 52
    exact spanAdd_any (some sl) (some sh) sl sh (some vy) (some vy) vy vy yl yh _ (by omega) RY Y Eyl Eyh (H.out.tbx sx)
  clear hK K
  repeat (first
      | ((with_reducible refine kLoad ?_); refine kldA H ?_)
      | ((fail_if_success (with_reducible refine kCall ?_)); (with_reducible refine kCons ?_); refine wpK_step (fun K hK => ?_); go_simp; refine hK _ ?_; clear hK K))
  refine wpKeep_nil ?_
  refine wpL_S (by rfl) rfl rfl rfl (by (first | exact rRat | exact rSpan | exact rPose | exact rFrame | exact rVec | exact rTurn | exact rBox)) (by rfl) (by rfl) (by (repeat (first | apply Upd.head | apply Upd.tail | assumption))) (by rfl) (by (simp only [List.drop, List.take, List.nil_append, List.cons_append]); rfl) (by exact Nat.le_of_ble_eq_true rfl) (by rfl) ?_
  refine wpL_nil ?_
  clear H
  intro _ H
  go_wp2_with (first
      | go_skip)
  exact bodyPost_ret (results_Hv H Tryz.results26 (by (first | exact rRat | exact rSpan | exact rPose | exact rFrame | exact rVec | exact rTurn | exact rBox)) rfl (by (repeat (first | exact List.Mem.head _ | refine List.Mem.tail _ ?_ | assumption))) (by rfl) (by rfl)) rfl ⟨rfl, H.out.bel⟩

set_option maxHeartbeats 4000000 in
theorem Put_wide {i j k : Nat} (a1 b1 : Option Rat) (p1 q1 : Rat) (a2 b2 : Option Rat) (p2 q2 : Rat) (a3 b3 : Option Rat) (p3 q3 : Rat) (x : Option Rat) (y : Option Rat) (r : Option Rat) (w : World) (hk : i ≤ 2300 ∧ k ≤ 3000 ∧ j ≤ 100) (A1 : Hid (Spn i a1 b1 p1 q1)) (A2 : Hid (Spn i a2 b2 p2 q2)) (A3 : Hid (Spn k a3 b3 p3 q3)) (Zx : Hid (SzO j x)) (Zy : Hid (SzO j y)) (Zr : Hid (SzO j r)) (G : Hid (tWide (valO r) p3 q3 = true)) (hT : Tb w) :
    Calls Tryz.prog 26 #[.agg #[.bool (sgO a1), .string (nuO a1), .string (deO a1), .bool (sgO b1), .string (nuO b1), .string (deO b1), .bool (sgO a2), .string (nuO a2), .string (deO a2), .bool (sgO b2), .string (nuO b2), .string (deO b2), .bool (sgO a3), .string (nuO a3), .string (deO a3), .bool (sgO b3), .string (nuO b3), .string (deO b3)], .agg #[.bool (sgO x), .string (nuO x), .string (deO x), .bool (sgO y), .string (nuO y), .string (deO y), .bool false, .bool (sgO r), .string (nuO r), .string (deO r)]] w fun e w' => e = .returned (.tuple #[.agg #[.bool false, .string ⟨#[]⟩, .string ⟨#[]⟩, .bool false, .string ⟨#[]⟩, .string ⟨#[]⟩, .bool false, .string ⟨#[]⟩, .string ⟨#[]⟩, .bool false, .string ⟨#[]⟩, .string ⟨#[]⟩, .bool false, .string ⟨#[]⟩, .string ⟨#[]⟩, .bool false, .string ⟨#[]⟩, .string ⟨#[]⟩], .int .i64 18]) ∧ Below w.heap.size w w' := by
  have H := Lib.hid (Hp.start hT)
  clear hT
  have Zp1 : Hid (Sz i p1) := A1.out.zp
  have Sp1 : Hid (SmO (some p1)) := Sz.o Zp1 (by omega)
  have Zq1 : Hid (Sz i q1) := A1.out.zq
  have Sq1 : Hid (SmO (some q1)) := Sz.o Zq1 (by omega)
  have Zp2 : Hid (Sz i p2) := A2.out.zp
  have Sp2 : Hid (SmO (some p2)) := Sz.o Zp2 (by omega)
  have Zq2 : Hid (Sz i q2) := A2.out.zq
  have Sq2 : Hid (SmO (some q2)) := Sz.o Zq2 (by omega)
  have Zp3 : Hid (Sz k p3) := A3.out.zp
  have Sp3 : Hid (SmO (some p3)) := Sz.o Zp3 (by omega)
  have Zq3 : Hid (Sz k q3) := A3.out.zq
  have Sq3 : Hid (SmO (some q3)) := Sz.o Zq3 (by omega)
  have Sx : Hid (SmO x) := SzO.sm Zx (by omega)
  have Sy : Hid (SmO y) := SzO.sm Zy (by omega)
  have Sr : Hid (SmO r) := SzO.sm Zr (by omega)
  go_enter Tryz.func26, Tryz.ntmps26
  go_wp2_with (first
      | ((with_reducible refine isLoad ?_); refine ldA H ?_)
      | ((with_reducible refine isLoad ?_); refine ld1A H ?_)
      | ((with_reducible refine isBox ?_); refine bxA H ?_; clear H; intro _ _ H)
      | ((with_reducible refine isAlloc ?_); refine alA H ?_; clear H; intro _ _ H))
  refine (turned_wide a3 b3 p3 q3 r _ (by omega) A3 Zr G H.out.tb).mono ?_
  rintro _ _ ⟨rfl, hb⟩
  replace H := Lib.hid (H.out.go hb)
  clear hb
  go_wp2_with (first
      | ((with_reducible refine isStore ?_); refine stA H ?_; clear H; intro _ H)
      | ((with_reducible refine isAlloc ?_); refine alA H ?_; clear H; intro _ _ H))
  exact bodyPost_ret (results_Hv H Tryz.results26 (by (first | exact rRat | exact rSpan | exact rPose | exact rFrame | exact rVec | exact rTurn | exact rBox)) rfl (by (repeat (first | exact List.Mem.head _ | refine List.Mem.tail _ ?_ | assumption))) (by rfl) (by rfl)) rfl ⟨rfl, H.out.bel⟩
end Go.Proofs.YtolekonocbeekaaGreatDoor

namespace Go.Proofs.YtolekonocbeekaaGreatDoor
open Go.RowKit
set_option linter.unusedVariables false
set_option maxRecDepth 100000

structure Ps where
  a1 : Rat
  b1 : Rat
  a2 : Rat
  b2 : Rat
  a3 : Rat
  b3 : Rat
structure Fr where
  x : Rat
  y : Rat
  t : Rat
def gripP (g : Fr) (p : Ps) : Ps := ⟨rtXL (-g.t) (p.a1 - g.x) (p.b1 - g.x) (p.a2 - g.y) (p.b2 - g.y), rtXH (-g.t) (p.a1 - g.x) (p.b1 - g.x) (p.a2 - g.y) (p.b2 - g.y), rtYL (-g.t) (p.a1 - g.x) (p.b1 - g.x) (p.a2 - g.y) (p.b2 - g.y), rtYH (-g.t) (p.a1 - g.x) (p.b1 - g.x) (p.a2 - g.y) (p.b2 - g.y), tvQ (-g.t) p.a3, tvQ (-g.t) p.b3⟩
def putP (g : Fr) (p : Ps) : Ps := ⟨rtXL g.t p.a1 p.b1 p.a2 p.b2 + g.x, rtXH g.t p.a1 p.b1 p.a2 p.b2 + g.x, rtYL g.t p.a1 p.b1 p.a2 p.b2 + g.y, rtYH g.t p.a1 p.b1 p.a2 p.b2 + g.y, tvQ g.t p.a3, tvQ g.t p.b3⟩
def widP (b s : Rat) (p : Ps) : Ps := ⟨p.a1 - b, p.b1 + b, p.a2 - b, p.b2 + b, p.a3 - s, p.b3 + s⟩
/-- Good bounds, positions of the one size, turns of the other. -/
structure Pok (i k : Nat) (p : Ps) : Prop where
  s1 : Spn i (some p.a1) (some p.b1) p.a1 p.b1
  s2 : Spn i (some p.a2) (some p.b2) p.a2 p.b2
  s3 : Spn k (some p.a3) (some p.b3) p.a3 p.b3
structure Fok (j : Nat) (g : Fr) : Prop where
  x : Sz j g.x
  y : Sz j g.y
  t : Sz j g.t
theorem Pok.grip {i j k : Nat} {p : Ps} {g : Fr} (h : Pok i k p) (f : Fok j g) (G : tWide (-g.t) p.a3 p.b3 = false) (h1 : 2 * (i + j + 1) + 8 * j + 17 ≤ 10000) (h2 : 2 * (j + k) + 5 ≤ 10000) : Pok (2 * (i + j + 1) + 8 * j + 17) (2 * (j + k) + 5) (gripP g p) :=
  have a := Spn.sub h.s1 (Spn.of f.x (by omega)) rfl rfl (by omega)
  have b := Spn.sub h.s2 (Spn.of f.y (by omega)) rfl rfl (by omega)
  ⟨Spn.rx a b f.t.neg (by omega), Spn.ry a b f.t.neg (by omega), Spn.tv h.s3 f.t.neg G (by omega)⟩
theorem Pok.put {i j k : Nat} {p : Ps} {g : Fr} (h : Pok i k p) (f : Fok j g) (G : tWide g.t p.a3 p.b3 = false) (h1 : 2 * i + 9 * j + 18 ≤ 10000) (h2 : 2 * (j + k) + 5 ≤ 10000) : Pok (2 * i + 9 * j + 18) (2 * (j + k) + 5) (putP g p) :=
  ⟨(Spn.add (Spn.rx h.s1 h.s2 f.t (by omega)) (Spn.of f.x (by omega)) rfl rfl (by omega)).mono (by omega), (Spn.add (Spn.ry h.s1 h.s2 f.t (by omega)) (Spn.of f.y (by omega)) rfl rfl (by omega)).mono (by omega), Spn.tv h.s3 f.t G (by omega)⟩
theorem Spn.wide {j k : Nat} {a b : Option Rat} {p q r : Rat} (A : Spn k a b p q) (zr : Sz j r) (h : 0 ≤ r) (hk : k + j + 1 ≤ 10000) : Spn (k + j + 1) (some (p - r)) (some (q + r)) (p - r) (q + r) := by
  have := A.le
  exact Spn.two (A.zp.sub zr) (A.zq.add zr) (by grind) hk
theorem Pok.wid {i j k : Nat} {p : Ps} {b s : Rat} (h : Pok i k p) (zb : Sz j b) (zs : Sz j s) (hb : 0 ≤ b) (hs : 0 ≤ s) (h1 : i + j + 1 ≤ 10000) (h2 : k + j + 1 ≤ 10000) : Pok (i + j + 1) (k + j + 1) (widP b s p) := ⟨h.s1.wide zb hb h1, h.s2.wide zb hb h1, h.s3.wide zs hs h2⟩
theorem Pok.pose {i k m : Nat} {p : Ps} (h : Pok i k p) (hi : i ≤ m) (hk : k ≤ m) : PoseF m p.a1 p.b1 p.a2 p.b2 p.a3 p.b3 := ⟨h.s1.le, h.s2.le, h.s3.le, h.s1.zp.mono hi, h.s1.zq.mono hi, h.s2.zp.mono hi, h.s2.zq.mono hi, h.s3.zp.mono hk, h.s3.zq.mono hk⟩
theorem PoseF.pok {k : Nat} {a1 b1 a2 b2 a3 b3 : Rat} (h : PoseF k a1 b1 a2 b2 a3 b3) (hk : k ≤ 10000) : Pok k k ⟨a1, b1, a2, b2, a3, b3⟩ := ⟨Spn.two h.za1 h.zb1 h.l1 hk, Spn.two h.za2 h.zb2 h.l2 hk, Spn.two h.za3 h.zb3 h.l3 hk⟩
theorem rWay : RowT Tryz.prog 50 20 := ⟨⟨_, Tryz.underlying50, rfl⟩, by kernel_rfl⟩
theorem zWay : (Tryz.prog.info? 50).bind (·.zero) = some (.agg #[.bool false, .string ⟨#[]⟩, .string ⟨#[]⟩, .bool false, .string ⟨#[]⟩, .string ⟨#[]⟩, .bool false, .bool false, .string ⟨#[]⟩, .string ⟨#[]⟩, .bool false, .string ⟨#[]⟩, .string ⟨#[]⟩, .bool false, .string ⟨#[]⟩, .string ⟨#[]⟩, .bool false, .bool false, .string ⟨#[]⟩, .string ⟨#[]⟩]) := by kernel_rfl
section
variable {P : Program} {ops : Array Oper} {rest : List Oper} {o : Oper} {a a2 : Act} {w0 w : World} {l : Ents} {Q : Exit → Act → World → Prop}
theorem ldX (H : Hid (Hp w0 w l)) {T t : TypeId} {b k n : Nat} {cs ds : List Value} {p : Operand} (X : Hid (Blk w0 b T cs.toArray)) (hK : wpList P ops Q rest a2 w) (ho : o.op = .load t p := by rfl) (hg : Region.wanted o (yielded ops a.tmps) = true := by first | exact wanted_none rfl | exact wanted_some rfl rfl) (hT : RowT P t n := by first | exact rRat | exact rVec | exact rFrame | exact rWay) (hp : a.eval p = .pointer (some ⟨b, k, none⟩) := by rfl)
    (hx : (cs.drop k).take n = ds := by (simp only [List.drop, List.take]; rfl)) (hl : ds.length = n := by rfl) (hn : a.put o.dst (.agg ds.toArray) = a2 := by (simp only [Act.put, List.setIfInBounds_toArray, List.set_cons_succ, List.set_cons_zero]; rfl)) : wpList P ops Q (o :: rest) a w :=
  wpList_loadB ho hg hT hp (Lib.hid (X.out.below H.out.bel X.out.lt)) (by simpa using hx) hl (by rw [hn]; exact hK)
theorem kldX (H : Hid (Hp w0 w l)) {R : Act → Prop} {T t : TypeId} {b k n : Nat} {cs ds : List Value} {p : Operand} (X : Hid (Blk w0 b T cs.toArray)) (hK : wpKeep P ops w R rest a2) (ho : o.op = .load t p := by rfl) (hg : Region.wanted o (yielded ops a.tmps) = true := by first | exact wanted_none rfl | exact wanted_some rfl rfl) (hT : RowT P t n := by first | exact rRat | exact rVec | exact rFrame | exact rWay) (hp : a.eval p = .pointer (some ⟨b, k, none⟩) := by rfl)
    (hx : (cs.drop k).take n = ds := by (simp only [List.drop, List.take]; rfl)) (hl : ds.length = n := by rfl) (hn : a.put o.dst (.agg ds.toArray) = a2 := by (simp only [Act.put, List.setIfInBounds_toArray, List.set_cons_succ, List.set_cons_zero]; rfl)) : wpKeep P ops w R (o :: rest) a :=
  wpKeep_loadB ho hg hT hp (Lib.hid (X.out.below H.out.bel X.out.lt)) (by simpa using hx) hl (by rw [hn]; exact hK)
theorem Hp.getx (h : Hp w0 w l) {b : Nat} {T : TypeId} {cs : List Value} (s : Ext w) (hm : (b, T, cs) ∈ l) : Hid (Blk s.to b T cs.toArray) := (h.get hm).out.below s.h (h.get hm).out.lt
end
end Go.Proofs.YtolekonocbeekaaGreatDoor

namespace Go.Proofs.YtolekonocbeekaaGreatDoor
open Go.RowKit
set_option linter.unusedVariables false
set_option maxRecDepth 100000

set_option maxHeartbeats 4000000 in
theorem Carry_ok {i j k : Nat} (a1 b1 : Option Rat) (p1 q1 : Rat) (a2 b2 : Option Rat) (p2 q2 : Rat) (a3 b3 : Option Rat) (p3 q3 : Rat) (x : Option Rat) (y : Option Rat) (r : Option Rat) (x2 : Option Rat) (y2 : Option Rat) (r2 : Option Rat) (tl : Rat) (th : Rat) (xl : Rat) (xh : Rat) (yl : Rat) (yh : Rat) (w : World) (hk : i ≤ 600 ∧ k ≤ 1000 ∧ j ≤ 50) (A1 : Hid (Spn i a1 b1 p1 q1)) (A2 : Hid (Spn i a2 b2 p2 q2)) (A3 : Hid (Spn k a3 b3 p3 q3)) (Zx : Hid (SzO j x)) (Zy : Hid (SzO j y)) (Zr : Hid (SzO j r)) (Zx2 : Hid (SzO j x2)) (Zy2 : Hid (SzO j y2)) (Zr2 : Hid (SzO j r2)) (G : Hid (tWide (-(valO r)) p3 q3 = false)) (G2 : Hid (tWide (valO r2) (tvQ (-(valO r)) p3) (tvQ (-(valO r)) q3) = false)) (Ftl : Hid ((putP ⟨valO x2, valO y2, valO r2⟩ (gripP ⟨valO x, valO y, valO r⟩ ⟨p1, q1, p2, q2, p3, q3⟩)).a3 = tl)) (Fth : Hid ((putP ⟨valO x2, valO y2, valO r2⟩ (gripP ⟨valO x, valO y, valO r⟩ ⟨p1, q1, p2, q2, p3, q3⟩)).b3 = th)) (Fxl : Hid ((putP ⟨valO x2, valO y2, valO r2⟩ (gripP ⟨valO x, valO y, valO r⟩ ⟨p1, q1, p2, q2, p3, q3⟩)).a1 = xl)) (Fxh : Hid ((putP ⟨valO x2, valO y2, valO r2⟩ (gripP ⟨valO x, valO y, valO r⟩ ⟨p1, q1, p2, q2, p3, q3⟩)).b1 = xh)) (Fyl : Hid ((putP ⟨valO x2, valO y2, valO r2⟩ (gripP ⟨valO x, valO y, valO r⟩ ⟨p1, q1, p2, q2, p3, q3⟩)).a2 = yl)) (Fyh : Hid ((putP ⟨valO x2, valO y2, valO r2⟩ (gripP ⟨valO x, valO y, valO r⟩ ⟨p1, q1, p2, q2, p3, q3⟩)).b2 = yh)) (hT : Tb w) :
    Calls Tryz.prog 8 #[.agg #[.bool (sgO a1), .string (nuO a1), .string (deO a1), .bool (sgO b1), .string (nuO b1), .string (deO b1), .bool (sgO a2), .string (nuO a2), .string (deO a2), .bool (sgO b2), .string (nuO b2), .string (deO b2), .bool (sgO a3), .string (nuO a3), .string (deO a3), .bool (sgO b3), .string (nuO b3), .string (deO b3)], .agg #[.bool (sgO x), .string (nuO x), .string (deO x), .bool (sgO y), .string (nuO y), .string (deO y), .bool false, .bool (sgO r), .string (nuO r), .string (deO r)], .agg #[.bool (sgO x2), .string (nuO x2), .string (deO x2), .bool (sgO y2), .string (nuO y2), .string (deO y2), .bool false, .bool (sgO r2), .string (nuO r2), .string (deO r2)]] w fun e w' => e = .returned (.tuple #[.agg #[.bool (sgO (some xl)), .string (nuO (some xl)), .string (deO (some xl)), .bool (sgO (some xh)), .string (nuO (some xh)), .string (deO (some xh)), .bool (sgO (some yl)), .string (nuO (some yl)), .string (deO (some yl)), .bool (sgO (some yh)), .string (nuO (some yh)), .string (deO (some yh)), .bool (sgO (some tl)), .string (nuO (some tl)), .string (deO (some tl)), .bool (sgO (some th)), .string (nuO (some th)), .string (deO (some th))], .int .i64 0]) ∧ Below w.heap.size w w' := by
  have H := Lib.hid (Hp.start hT)
  clear hT
  have Zp1 : Hid (Sz i p1) := A1.out.zp
  have Sp1 : Hid (SmO (some p1)) := Sz.o Zp1 (by omega)
  have Zq1 : Hid (Sz i q1) := A1.out.zq
  have Sq1 : Hid (SmO (some q1)) := Sz.o Zq1 (by omega)
  have Zp2 : Hid (Sz i p2) := A2.out.zp
  have Sp2 : Hid (SmO (some p2)) := Sz.o Zp2 (by omega)
  have Zq2 : Hid (Sz i q2) := A2.out.zq
  have Sq2 : Hid (SmO (some q2)) := Sz.o Zq2 (by omega)
  have Zp3 : Hid (Sz k p3) := A3.out.zp
  have Sp3 : Hid (SmO (some p3)) := Sz.o Zp3 (by omega)
  have Zq3 : Hid (Sz k q3) := A3.out.zq
  have Sq3 : Hid (SmO (some q3)) := Sz.o Zq3 (by omega)
  have Sx : Hid (SmO x) := SzO.sm Zx (by omega)
  have Sy : Hid (SmO y) := SzO.sm Zy (by omega)
  have Sr : Hid (SmO r) := SzO.sm Zr (by omega)
  have Sx2 : Hid (SmO x2) := SzO.sm Zx2 (by omega)
  have Sy2 : Hid (SmO y2) := SzO.sm Zy2 (by omega)
  have Sr2 : Hid (SmO r2) := SzO.sm Zr2 (by omega)
  obtain ⟨gxl, Egxl⟩ : ∃ z : Rat, Hid ((gripP ⟨valO x, valO y, valO r⟩ ⟨p1, q1, p2, q2, p3, q3⟩).a1 = z) := ⟨_, rfl⟩
  obtain ⟨gxh, Egxh⟩ : ∃ z : Rat, Hid ((gripP ⟨valO x, valO y, valO r⟩ ⟨p1, q1, p2, q2, p3, q3⟩).b1 = z) := ⟨_, rfl⟩
  obtain ⟨gyl, Egyl⟩ : ∃ z : Rat, Hid ((gripP ⟨valO x, valO y, valO r⟩ ⟨p1, q1, p2, q2, p3, q3⟩).a2 = z) := ⟨_, rfl⟩
  obtain ⟨gyh, Egyh⟩ : ∃ z : Rat, Hid ((gripP ⟨valO x, valO y, valO r⟩ ⟨p1, q1, p2, q2, p3, q3⟩).b2 = z) := ⟨_, rfl⟩
  obtain ⟨gtl, Egtl⟩ : ∃ z : Rat, Hid ((gripP ⟨valO x, valO y, valO r⟩ ⟨p1, q1, p2, q2, p3, q3⟩).a3 = z) := ⟨_, rfl⟩
  obtain ⟨gth, Egth⟩ : ∃ z : Rat, Hid ((gripP ⟨valO x, valO y, valO r⟩ ⟨p1, q1, p2, q2, p3, q3⟩).b3 = z) := ⟨_, rfl⟩
  have GX : Hid (Spn (2 * (i + j + 1) + 8 * j + 17) (some gxl) (some gxh) gxl gxh) := by have h1 := Egxl.out; have h2 := Egxh.out; rw [← h1, ← h2]; exact Spn.rx (Spn.sub A1.out (Spn.of Zx (by omega)) rfl rfl (by omega)) (Spn.sub A2.out (Spn.of Zy (by omega)) rfl rfl (by omega)) (Sz.neg Zr) (by omega)
  have GY : Hid (Spn (2 * (i + j + 1) + 8 * j + 17) (some gyl) (some gyh) gyl gyh) := by have h1 := Egyl.out; have h2 := Egyh.out; rw [← h1, ← h2]; exact Spn.ry (Spn.sub A1.out (Spn.of Zx (by omega)) rfl rfl (by omega)) (Spn.sub A2.out (Spn.of Zy (by omega)) rfl rfl (by omega)) (Sz.neg Zr) (by omega)
  have GT : Hid (Spn (2 * (j + k) + 5) (some gtl) (some gth) gtl gth) := by have h1 := Egtl.out; have h2 := Egth.out; rw [← h1, ← h2]; exact Spn.tv A3.out (Sz.neg Zr) G.out (by omega)
  have G3 : Hid (tWide (valO r2) gtl gth = false) := by have h1 := Egtl.out; have h2 := Egth.out; rw [← h1, ← h2]; exact G2.out
  have Etl : Hid ((putP ⟨valO x2, valO y2, valO r2⟩ ⟨gxl, gxh, gyl, gyh, gtl, gth⟩).a3 = tl) := by have h0 := Ftl.out; have h1 := Egxl.out; have h2 := Egxh.out; have h3 := Egyl.out; have h4 := Egyh.out; have h5 := Egtl.out; have h6 := Egth.out; subst_vars; rfl
  have Eth : Hid ((putP ⟨valO x2, valO y2, valO r2⟩ ⟨gxl, gxh, gyl, gyh, gtl, gth⟩).b3 = th) := by have h0 := Fth.out; have h1 := Egxl.out; have h2 := Egxh.out; have h3 := Egyl.out; have h4 := Egyh.out; have h5 := Egtl.out; have h6 := Egth.out; subst_vars; rfl
  have Exl : Hid ((putP ⟨valO x2, valO y2, valO r2⟩ ⟨gxl, gxh, gyl, gyh, gtl, gth⟩).a1 = xl) := by have h0 := Fxl.out; have h1 := Egxl.out; have h2 := Egxh.out; have h3 := Egyl.out; have h4 := Egyh.out; have h5 := Egtl.out; have h6 := Egth.out; subst_vars; rfl
  have Exh : Hid ((putP ⟨valO x2, valO y2, valO r2⟩ ⟨gxl, gxh, gyl, gyh, gtl, gth⟩).b1 = xh) := by have h0 := Fxh.out; have h1 := Egxl.out; have h2 := Egxh.out; have h3 := Egyl.out; have h4 := Egyh.out; have h5 := Egtl.out; have h6 := Egth.out; subst_vars; rfl
  have Eyl : Hid ((putP ⟨valO x2, valO y2, valO r2⟩ ⟨gxl, gxh, gyl, gyh, gtl, gth⟩).a2 = yl) := by have h0 := Fyl.out; have h1 := Egxl.out; have h2 := Egxh.out; have h3 := Egyl.out; have h4 := Egyh.out; have h5 := Egtl.out; have h6 := Egth.out; subst_vars; rfl
  have Eyh : Hid ((putP ⟨valO x2, valO y2, valO r2⟩ ⟨gxl, gxh, gyl, gyh, gtl, gth⟩).b2 = yh) := by have h0 := Fyh.out; have h1 := Egxl.out; have h2 := Egxh.out; have h3 := Egyl.out; have h4 := Egyh.out; have h5 := Egtl.out; have h6 := Egth.out; subst_vars; rfl
  go_enter Tryz.func8, Tryz.ntmps8
  go_wp2_with (first
      | ((with_reducible refine isLoad ?_); refine ldA H ?_)
      | ((with_reducible refine isBox ?_); refine bxA H ?_; clear H; intro _ _ H)
      | ((with_reducible refine isAlloc ?_); refine alA H ?_; clear H; intro _ _ H))
  refine (Grip_ok a1 b1 p1 q1 a2 b2 p2 q2 a3 b3 p3 q3 x y r gtl gth gxl gxh gyl gyh _ (by omega) A1 A2 A3 Zx Zy Zr G Egtl Egth Egxl Egxh Egyl Egyh H.out.tb).mono ?_
  rintro _ _ ⟨rfl, hb⟩
  replace H := Lib.hid (H.out.go hb)
  clear hb
  go_wp2_with (first
      | ((with_reducible refine isLoad ?_); refine ldA H ?_)
      | ((with_reducible refine isStore ?_); refine stA H ?_; clear H; intro _ H)
      | ((with_reducible refine isAlloc ?_); refine alA H ?_; clear H; intro _ _ H))
  refine (Put_ok (i := 2 * (i + j + 1) + 8 * j + 17) (j := j) (k := 2 * (j + k) + 5) (some gxl) (some gxh) gxl gxh (some gyl) (some gyh) gyl gyh (some gtl) (some gth) gtl gth x2 y2 r2 tl th xl xh yl yh _ (by omega) GX GY GT Zx2 Zy2 Zr2 G3 Etl Eth Exl Exh Eyl Eyh H.out.tb).mono ?_
  rintro _ _ ⟨rfl, hb⟩
  replace H := Lib.hid (H.out.go hb)
  clear hb
  go_wp2_with (first
      | ((with_reducible refine isStore ?_); refine stA H ?_; clear H; intro _ H))
  exact bodyPost_ret (results_Hv H Tryz.results8 (by (first | exact rRat | exact rSpan | exact rPose | exact rFrame | exact rVec | exact rTurn | exact rBox)) rfl (by (repeat (first | exact List.Mem.head _ | refine List.Mem.tail _ ?_ | assumption))) (by rfl) (by rfl)) rfl ⟨rfl, H.out.bel⟩

set_option maxHeartbeats 4000000 in
theorem Carry_wide1 {i j k : Nat} (a1 b1 : Option Rat) (p1 q1 : Rat) (a2 b2 : Option Rat) (p2 q2 : Rat) (a3 b3 : Option Rat) (p3 q3 : Rat) (x : Option Rat) (y : Option Rat) (r : Option Rat) (x2 : Option Rat) (y2 : Option Rat) (r2 : Option Rat) (w : World) (hk : i ≤ 600 ∧ k ≤ 1000 ∧ j ≤ 50) (A1 : Hid (Spn i a1 b1 p1 q1)) (A2 : Hid (Spn i a2 b2 p2 q2)) (A3 : Hid (Spn k a3 b3 p3 q3)) (Zx : Hid (SzO j x)) (Zy : Hid (SzO j y)) (Zr : Hid (SzO j r)) (Zx2 : Hid (SzO j x2)) (Zy2 : Hid (SzO j y2)) (Zr2 : Hid (SzO j r2)) (G : Hid (tWide (-(valO r)) p3 q3 = true)) (hT : Tb w) :
    Calls Tryz.prog 8 #[.agg #[.bool (sgO a1), .string (nuO a1), .string (deO a1), .bool (sgO b1), .string (nuO b1), .string (deO b1), .bool (sgO a2), .string (nuO a2), .string (deO a2), .bool (sgO b2), .string (nuO b2), .string (deO b2), .bool (sgO a3), .string (nuO a3), .string (deO a3), .bool (sgO b3), .string (nuO b3), .string (deO b3)], .agg #[.bool (sgO x), .string (nuO x), .string (deO x), .bool (sgO y), .string (nuO y), .string (deO y), .bool false, .bool (sgO r), .string (nuO r), .string (deO r)], .agg #[.bool (sgO x2), .string (nuO x2), .string (deO x2), .bool (sgO y2), .string (nuO y2), .string (deO y2), .bool false, .bool (sgO r2), .string (nuO r2), .string (deO r2)]] w fun e w' => e = .returned (.tuple #[.agg #[.bool false, .string ⟨#[]⟩, .string ⟨#[]⟩, .bool false, .string ⟨#[]⟩, .string ⟨#[]⟩, .bool false, .string ⟨#[]⟩, .string ⟨#[]⟩, .bool false, .string ⟨#[]⟩, .string ⟨#[]⟩, .bool false, .string ⟨#[]⟩, .string ⟨#[]⟩, .bool false, .string ⟨#[]⟩, .string ⟨#[]⟩], .int .i64 18]) ∧ Below w.heap.size w w' := by
  have H := Lib.hid (Hp.start hT)
  clear hT
  have Zp1 : Hid (Sz i p1) := A1.out.zp
  have Sp1 : Hid (SmO (some p1)) := Sz.o Zp1 (by omega)
  have Zq1 : Hid (Sz i q1) := A1.out.zq
  have Sq1 : Hid (SmO (some q1)) := Sz.o Zq1 (by omega)
  have Zp2 : Hid (Sz i p2) := A2.out.zp
  have Sp2 : Hid (SmO (some p2)) := Sz.o Zp2 (by omega)
  have Zq2 : Hid (Sz i q2) := A2.out.zq
  have Sq2 : Hid (SmO (some q2)) := Sz.o Zq2 (by omega)
  have Zp3 : Hid (Sz k p3) := A3.out.zp
  have Sp3 : Hid (SmO (some p3)) := Sz.o Zp3 (by omega)
  have Zq3 : Hid (Sz k q3) := A3.out.zq
  have Sq3 : Hid (SmO (some q3)) := Sz.o Zq3 (by omega)
  have Sx : Hid (SmO x) := SzO.sm Zx (by omega)
  have Sy : Hid (SmO y) := SzO.sm Zy (by omega)
  have Sr : Hid (SmO r) := SzO.sm Zr (by omega)
  have Sx2 : Hid (SmO x2) := SzO.sm Zx2 (by omega)
  have Sy2 : Hid (SmO y2) := SzO.sm Zy2 (by omega)
  have Sr2 : Hid (SmO r2) := SzO.sm Zr2 (by omega)
  go_enter Tryz.func8, Tryz.ntmps8
  go_wp2_with (first
      | ((with_reducible refine isLoad ?_); refine ldA H ?_)
      | ((with_reducible refine isBox ?_); refine bxA H ?_; clear H; intro _ _ H)
      | ((with_reducible refine isAlloc ?_); refine alA H ?_; clear H; intro _ _ H))
  refine (Grip_wide a1 b1 p1 q1 a2 b2 p2 q2 a3 b3 p3 q3 x y r _ (by omega) A1 A2 A3 Zx Zy Zr G H.out.tb).mono ?_
  rintro _ _ ⟨rfl, hb⟩
  replace H := Lib.hid (H.out.go hb)
  clear hb
  go_wp2_with (first
      | ((with_reducible refine isStore ?_); refine stA H ?_; clear H; intro _ H)
      | ((with_reducible refine isAlloc ?_); refine alA H ?_; clear H; intro _ _ H))
  exact bodyPost_ret (results_Hv H Tryz.results8 (by (first | exact rRat | exact rSpan | exact rPose | exact rFrame | exact rVec | exact rTurn | exact rBox)) rfl (by (repeat (first | exact List.Mem.head _ | refine List.Mem.tail _ ?_ | assumption))) (by rfl) (by rfl)) rfl ⟨rfl, H.out.bel⟩

set_option maxHeartbeats 4000000 in
theorem Carry_wide2 {i j k : Nat} (a1 b1 : Option Rat) (p1 q1 : Rat) (a2 b2 : Option Rat) (p2 q2 : Rat) (a3 b3 : Option Rat) (p3 q3 : Rat) (x : Option Rat) (y : Option Rat) (r : Option Rat) (x2 : Option Rat) (y2 : Option Rat) (r2 : Option Rat) (w : World) (hk : i ≤ 600 ∧ k ≤ 1000 ∧ j ≤ 50) (A1 : Hid (Spn i a1 b1 p1 q1)) (A2 : Hid (Spn i a2 b2 p2 q2)) (A3 : Hid (Spn k a3 b3 p3 q3)) (Zx : Hid (SzO j x)) (Zy : Hid (SzO j y)) (Zr : Hid (SzO j r)) (Zx2 : Hid (SzO j x2)) (Zy2 : Hid (SzO j y2)) (Zr2 : Hid (SzO j r2)) (G : Hid (tWide (-(valO r)) p3 q3 = false)) (G2 : Hid (tWide (valO r2) (tvQ (-(valO r)) p3) (tvQ (-(valO r)) q3) = true)) (hT : Tb w) :
    Calls Tryz.prog 8 #[.agg #[.bool (sgO a1), .string (nuO a1), .string (deO a1), .bool (sgO b1), .string (nuO b1), .string (deO b1), .bool (sgO a2), .string (nuO a2), .string (deO a2), .bool (sgO b2), .string (nuO b2), .string (deO b2), .bool (sgO a3), .string (nuO a3), .string (deO a3), .bool (sgO b3), .string (nuO b3), .string (deO b3)], .agg #[.bool (sgO x), .string (nuO x), .string (deO x), .bool (sgO y), .string (nuO y), .string (deO y), .bool false, .bool (sgO r), .string (nuO r), .string (deO r)], .agg #[.bool (sgO x2), .string (nuO x2), .string (deO x2), .bool (sgO y2), .string (nuO y2), .string (deO y2), .bool false, .bool (sgO r2), .string (nuO r2), .string (deO r2)]] w fun e w' => e = .returned (.tuple #[.agg #[.bool false, .string ⟨#[]⟩, .string ⟨#[]⟩, .bool false, .string ⟨#[]⟩, .string ⟨#[]⟩, .bool false, .string ⟨#[]⟩, .string ⟨#[]⟩, .bool false, .string ⟨#[]⟩, .string ⟨#[]⟩, .bool false, .string ⟨#[]⟩, .string ⟨#[]⟩, .bool false, .string ⟨#[]⟩, .string ⟨#[]⟩], .int .i64 18]) ∧ Below w.heap.size w w' := by
  have H := Lib.hid (Hp.start hT)
  clear hT
  have Zp1 : Hid (Sz i p1) := A1.out.zp
  have Sp1 : Hid (SmO (some p1)) := Sz.o Zp1 (by omega)
  have Zq1 : Hid (Sz i q1) := A1.out.zq
  have Sq1 : Hid (SmO (some q1)) := Sz.o Zq1 (by omega)
  have Zp2 : Hid (Sz i p2) := A2.out.zp
  have Sp2 : Hid (SmO (some p2)) := Sz.o Zp2 (by omega)
  have Zq2 : Hid (Sz i q2) := A2.out.zq
  have Sq2 : Hid (SmO (some q2)) := Sz.o Zq2 (by omega)
  have Zp3 : Hid (Sz k p3) := A3.out.zp
  have Sp3 : Hid (SmO (some p3)) := Sz.o Zp3 (by omega)
  have Zq3 : Hid (Sz k q3) := A3.out.zq
  have Sq3 : Hid (SmO (some q3)) := Sz.o Zq3 (by omega)
  have Sx : Hid (SmO x) := SzO.sm Zx (by omega)
  have Sy : Hid (SmO y) := SzO.sm Zy (by omega)
  have Sr : Hid (SmO r) := SzO.sm Zr (by omega)
  have Sx2 : Hid (SmO x2) := SzO.sm Zx2 (by omega)
  have Sy2 : Hid (SmO y2) := SzO.sm Zy2 (by omega)
  have Sr2 : Hid (SmO r2) := SzO.sm Zr2 (by omega)
  obtain ⟨gxl, Egxl⟩ : ∃ z : Rat, Hid ((gripP ⟨valO x, valO y, valO r⟩ ⟨p1, q1, p2, q2, p3, q3⟩).a1 = z) := ⟨_, rfl⟩
  obtain ⟨gxh, Egxh⟩ : ∃ z : Rat, Hid ((gripP ⟨valO x, valO y, valO r⟩ ⟨p1, q1, p2, q2, p3, q3⟩).b1 = z) := ⟨_, rfl⟩
  obtain ⟨gyl, Egyl⟩ : ∃ z : Rat, Hid ((gripP ⟨valO x, valO y, valO r⟩ ⟨p1, q1, p2, q2, p3, q3⟩).a2 = z) := ⟨_, rfl⟩
  obtain ⟨gyh, Egyh⟩ : ∃ z : Rat, Hid ((gripP ⟨valO x, valO y, valO r⟩ ⟨p1, q1, p2, q2, p3, q3⟩).b2 = z) := ⟨_, rfl⟩
  obtain ⟨gtl, Egtl⟩ : ∃ z : Rat, Hid ((gripP ⟨valO x, valO y, valO r⟩ ⟨p1, q1, p2, q2, p3, q3⟩).a3 = z) := ⟨_, rfl⟩
  obtain ⟨gth, Egth⟩ : ∃ z : Rat, Hid ((gripP ⟨valO x, valO y, valO r⟩ ⟨p1, q1, p2, q2, p3, q3⟩).b3 = z) := ⟨_, rfl⟩
  have GX : Hid (Spn (2 * (i + j + 1) + 8 * j + 17) (some gxl) (some gxh) gxl gxh) := by have h1 := Egxl.out; have h2 := Egxh.out; rw [← h1, ← h2]; exact Spn.rx (Spn.sub A1.out (Spn.of Zx (by omega)) rfl rfl (by omega)) (Spn.sub A2.out (Spn.of Zy (by omega)) rfl rfl (by omega)) (Sz.neg Zr) (by omega)
  have GY : Hid (Spn (2 * (i + j + 1) + 8 * j + 17) (some gyl) (some gyh) gyl gyh) := by have h1 := Egyl.out; have h2 := Egyh.out; rw [← h1, ← h2]; exact Spn.ry (Spn.sub A1.out (Spn.of Zx (by omega)) rfl rfl (by omega)) (Spn.sub A2.out (Spn.of Zy (by omega)) rfl rfl (by omega)) (Sz.neg Zr) (by omega)
  have GT : Hid (Spn (2 * (j + k) + 5) (some gtl) (some gth) gtl gth) := by have h1 := Egtl.out; have h2 := Egth.out; rw [← h1, ← h2]; exact Spn.tv A3.out (Sz.neg Zr) G.out (by omega)
  have G3 : Hid (tWide (valO r2) gtl gth = true) := by have h1 := Egtl.out; have h2 := Egth.out; rw [← h1, ← h2]; exact G2.out
  go_enter Tryz.func8, Tryz.ntmps8
  go_wp2_with (first
      | ((with_reducible refine isLoad ?_); refine ldA H ?_)
      | ((with_reducible refine isBox ?_); refine bxA H ?_; clear H; intro _ _ H)
      | ((with_reducible refine isAlloc ?_); refine alA H ?_; clear H; intro _ _ H))
  refine (Grip_ok a1 b1 p1 q1 a2 b2 p2 q2 a3 b3 p3 q3 x y r gtl gth gxl gxh gyl gyh _ (by omega) A1 A2 A3 Zx Zy Zr G Egtl Egth Egxl Egxh Egyl Egyh H.out.tb).mono ?_
  rintro _ _ ⟨rfl, hb⟩
  replace H := Lib.hid (H.out.go hb)
  clear hb
  go_wp2_with (first
      | ((with_reducible refine isLoad ?_); refine ldA H ?_)
      | ((with_reducible refine isStore ?_); refine stA H ?_; clear H; intro _ H)
      | ((with_reducible refine isAlloc ?_); refine alA H ?_; clear H; intro _ _ H))
  refine (Put_wide (i := 2 * (i + j + 1) + 8 * j + 17) (j := j) (k := 2 * (j + k) + 5) (some gxl) (some gxh) gxl gxh (some gyl) (some gyh) gyl gyh (some gtl) (some gth) gtl gth x2 y2 r2 _ (by omega) GX GY GT Zx2 Zy2 Zr2 G3 H.out.tb).mono ?_
  rintro _ _ ⟨rfl, hb⟩
  replace H := Lib.hid (H.out.go hb)
  clear hb
  go_wp2_with (first
      | ((with_reducible refine isStore ?_); refine stA H ?_; clear H; intro _ H))
  exact bodyPost_ret (results_Hv H Tryz.results8 (by (first | exact rRat | exact rSpan | exact rPose | exact rFrame | exact rVec | exact rTurn | exact rBox)) rfl (by (repeat (first | exact List.Mem.head _ | refine List.Mem.tail _ ?_ | assumption))) (by rfl) (by rfl)) rfl ⟨rfl, H.out.bel⟩
end Go.Proofs.YtolekonocbeekaaGreatDoor

namespace Go.Proofs.YtolekonocbeekaaGreatDoor
open Go.RowKit
set_option linter.unusedVariables false
set_option maxRecDepth 100000

theorem mx_self0 : mx ((0 : Int) : Rat) ((0 : Int) : Rat) = ((0 : Int) : Rat) := by unfold mx; split <;> rfl
theorem wid0L (a : Rat) : a - mx (valO (some ((0 : Int) : Rat))) ((0 : Int) : Rat) = a := by
  rw [show valO (some ((0 : Int) : Rat)) = ((0 : Int) : Rat) from rfl, mx_self0]
  have e : ((0 : Int) : Rat) = 0 := rfl
  grind
theorem wid0H (a : Rat) : a + mx (valO (some ((0 : Int) : Rat))) ((0 : Int) : Rat) = a := by
  rw [show valO (some ((0 : Int) : Rat)) = ((0 : Int) : Rat) from rfl, mx_self0]
  have e : ((0 : Int) : Rat) = 0 := rfl
  grind
set_option maxHeartbeats 4000000 in
theorem Drift_ok {i j k : Nat} (a1 b1 a2 b2 a3 b3 : Rat) (x : Option Rat) (y : Option Rat) (r : Option Rat) (x2 : Option Rat) (y2 : Option Rat) (r2 : Option Rat) (by_ sl : Rat) (c : Nat) (tl : Rat) (th : Rat) (xl : Rat) (xh : Rat) (yl : Rat) (yh : Rat) (w : World) (hk : i ≤ 1010 ∧ k ≤ 1400 ∧ j ≤ 20) (A1 : Hid (Spn i (some a1) (some b1) a1 b1)) (A2 : Hid (Spn i (some a2) (some b2) a2 b2)) (A3 : Hid (Spn k (some a3) (some b3) a3 b3)) (Zx : Hid (SzO j x)) (Zy : Hid (SzO j y)) (Zr : Hid (SzO j r)) (Zx2 : Hid (SzO j x2)) (Zy2 : Hid (SzO j y2)) (Zr2 : Hid (SzO j r2)) (Zby_ : Hid (Sz j by_)) (hby_ : Hid (0 ≤ by_)) (Zsl : Hid (Sz j sl)) (hsl : Hid (0 ≤ sl)) (X : Hid (Blk w c 50 [.bool (sgO x), .string (nuO x), .string (deO x), .bool (sgO y), .string (nuO y), .string (deO y), .bool false, .bool (sgO r), .string (nuO r), .string (deO r), .bool (sgO x2), .string (nuO x2), .string (deO x2), .bool (sgO y2), .string (nuO y2), .string (deO y2), .bool false, .bool (sgO r2), .string (nuO r2), .string (deO r2)].toArray)) (G : Hid (tWide (-(valO r)) a3 b3 = false)) (G2 : Hid (tWide (valO r2) (tvQ (-(valO r)) a3 - sl) (tvQ (-(valO r)) b3 + sl) = false)) (Ftl : Hid ((putP ⟨valO x2, valO y2, valO r2⟩ (widP by_ sl (gripP ⟨valO x, valO y, valO r⟩ ⟨a1, b1, a2, b2, a3, b3⟩))).a3 = tl)) (Fth : Hid ((putP ⟨valO x2, valO y2, valO r2⟩ (widP by_ sl (gripP ⟨valO x, valO y, valO r⟩ ⟨a1, b1, a2, b2, a3, b3⟩))).b3 = th)) (Fxl : Hid ((putP ⟨valO x2, valO y2, valO r2⟩ (widP by_ sl (gripP ⟨valO x, valO y, valO r⟩ ⟨a1, b1, a2, b2, a3, b3⟩))).a1 = xl)) (Fxh : Hid ((putP ⟨valO x2, valO y2, valO r2⟩ (widP by_ sl (gripP ⟨valO x, valO y, valO r⟩ ⟨a1, b1, a2, b2, a3, b3⟩))).b1 = xh)) (Fyl : Hid ((putP ⟨valO x2, valO y2, valO r2⟩ (widP by_ sl (gripP ⟨valO x, valO y, valO r⟩ ⟨a1, b1, a2, b2, a3, b3⟩))).a2 = yl)) (Fyh : Hid ((putP ⟨valO x2, valO y2, valO r2⟩ (widP by_ sl (gripP ⟨valO x, valO y, valO r⟩ ⟨a1, b1, a2, b2, a3, b3⟩))).b2 = yh)) (hT : Tb w) :
    Calls Tryz.prog 13 #[.agg #[.bool (sgO (some a1)), .string (nuO (some a1)), .string (deO (some a1)), .bool (sgO (some b1)), .string (nuO (some b1)), .string (deO (some b1)), .bool (sgO (some a2)), .string (nuO (some a2)), .string (deO (some a2)), .bool (sgO (some b2)), .string (nuO (some b2)), .string (deO (some b2)), .bool (sgO (some a3)), .string (nuO (some a3)), .string (deO (some a3)), .bool (sgO (some b3)), .string (nuO (some b3)), .string (deO (some b3))], .slice (some ⟨c, 0, none⟩) 1 1, .agg #[.bool (sgO (some by_)), .string (nuO (some by_)), .string (deO (some by_))], .agg #[.bool (sgO (some sl)), .string (nuO (some sl)), .string (deO (some sl))]] w fun e w' => e = .returned (.tuple #[.agg #[.bool (sgO (some xl)), .string (nuO (some xl)), .string (deO (some xl)), .bool (sgO (some xh)), .string (nuO (some xh)), .string (deO (some xh)), .bool (sgO (some yl)), .string (nuO (some yl)), .string (deO (some yl)), .bool (sgO (some yh)), .string (nuO (some yh)), .string (deO (some yh)), .bool (sgO (some tl)), .string (nuO (some tl)), .string (deO (some tl)), .bool (sgO (some th)), .string (nuO (some th)), .string (deO (some th))], .int .i64 0]) ∧ Below w.heap.size w w' := by
  have H := Lib.hid (Hp.start hT)
  clear hT
  have Sx : Hid (SmO x) := SzO.sm Zx (by omega)
  have Sy : Hid (SmO y) := SzO.sm Zy (by omega)
  have Sr : Hid (SmO r) := SzO.sm Zr (by omega)
  have Sx2 : Hid (SmO x2) := SzO.sm Zx2 (by omega)
  have Sy2 : Hid (SmO y2) := SzO.sm Zy2 (by omega)
  have Sr2 : Hid (SmO r2) := SzO.sm Zr2 (by omega)
  have Sby_ : Hid (SmO (some by_)) := Sz.o Zby_ (by omega)
  have Ssl : Hid (SmO (some sl)) := Sz.o Zsl (by omega)
  obtain ⟨o, Eo⟩ : ∃ z : Rat, Hid (((0 : Int) : Rat) = z) := ⟨_, rfl⟩
  have Zo : Hid (Sz 3 o) := szEq Eo (Sz.int (0) (by decide))
  have So : Hid (SmO (some o)) := Sz.o Zo (by omega)
  have Zo1 : Hid (Sz 3 o) := Zo
  have O1 : Hid (a1 - mx (valO (some o)) ((0 : Int) : Rat) = a1) := by have h := Eo.out; subst h; exact wid0L a1
  have Q1 : Hid (b1 + mx (valO (some o)) ((0 : Int) : Rat) = b1) := by have h := Eo.out; subst h; exact wid0H b1
  have O2 : Hid (a2 - mx (valO (some o)) ((0 : Int) : Rat) = a2) := by have h := Eo.out; subst h; exact wid0L a2
  have Q2 : Hid (b2 + mx (valO (some o)) ((0 : Int) : Rat) = b2) := by have h := Eo.out; subst h; exact wid0H b2
  have O3 : Hid (a3 - mx (valO (some o)) ((0 : Int) : Rat) = a3) := by have h := Eo.out; subst h; exact wid0L a3
  have Q3 : Hid (b3 + mx (valO (some o)) ((0 : Int) : Rat) = b3) := by have h := Eo.out; subst h; exact wid0H b3
  obtain ⟨gxl, Egxl⟩ : ∃ z : Rat, Hid ((gripP ⟨valO x, valO y, valO r⟩ ⟨a1, b1, a2, b2, a3, b3⟩).a1 = z) := ⟨_, rfl⟩
  obtain ⟨gxh, Egxh⟩ : ∃ z : Rat, Hid ((gripP ⟨valO x, valO y, valO r⟩ ⟨a1, b1, a2, b2, a3, b3⟩).b1 = z) := ⟨_, rfl⟩
  obtain ⟨gyl, Egyl⟩ : ∃ z : Rat, Hid ((gripP ⟨valO x, valO y, valO r⟩ ⟨a1, b1, a2, b2, a3, b3⟩).a2 = z) := ⟨_, rfl⟩
  obtain ⟨gyh, Egyh⟩ : ∃ z : Rat, Hid ((gripP ⟨valO x, valO y, valO r⟩ ⟨a1, b1, a2, b2, a3, b3⟩).b2 = z) := ⟨_, rfl⟩
  obtain ⟨gtl, Egtl⟩ : ∃ z : Rat, Hid ((gripP ⟨valO x, valO y, valO r⟩ ⟨a1, b1, a2, b2, a3, b3⟩).a3 = z) := ⟨_, rfl⟩
  obtain ⟨gth, Egth⟩ : ∃ z : Rat, Hid ((gripP ⟨valO x, valO y, valO r⟩ ⟨a1, b1, a2, b2, a3, b3⟩).b3 = z) := ⟨_, rfl⟩
  have GX : Hid (Spn (2 * (i + j + 1) + 8 * j + 17) (some gxl) (some gxh) gxl gxh) := by have h1 := Egxl.out; have h2 := Egxh.out; rw [← h1, ← h2]; exact Spn.rx (Spn.sub A1.out (Spn.of Zx (by omega)) rfl rfl (by omega)) (Spn.sub A2.out (Spn.of Zy (by omega)) rfl rfl (by omega)) (Sz.neg Zr) (by omega)
  have GY : Hid (Spn (2 * (i + j + 1) + 8 * j + 17) (some gyl) (some gyh) gyl gyh) := by have h1 := Egyl.out; have h2 := Egyh.out; rw [← h1, ← h2]; exact Spn.ry (Spn.sub A1.out (Spn.of Zx (by omega)) rfl rfl (by omega)) (Spn.sub A2.out (Spn.of Zy (by omega)) rfl rfl (by omega)) (Sz.neg Zr) (by omega)
  have GT : Hid (Spn (2 * (j + k) + 5) (some gtl) (some gth) gtl gth) := by have h1 := Egtl.out; have h2 := Egth.out; rw [← h1, ← h2]; exact Spn.tv A3.out (Sz.neg Zr) G.out (by omega)
  obtain ⟨wl1, Ewl1⟩ : ∃ z : Rat, Hid (gxl - by_ = z) := ⟨_, rfl⟩
  obtain ⟨wh1, Ewh1⟩ : ∃ z : Rat, Hid (gxh + by_ = z) := ⟨_, rfl⟩
  have Fl1 : Hid (gxl - mx (valO (some by_)) ((0 : Int) : Rat) = wl1) := by unfold Hid; rw [show valO (some by_) = by_ from rfl, mx_zero hby_]; exact Ewl1
  have Fh1 : Hid (gxh + mx (valO (some by_)) ((0 : Int) : Rat) = wh1) := by unfold Hid; rw [show valO (some by_) = by_ from rfl, mx_zero hby_]; exact Ewh1
  obtain ⟨wl2, Ewl2⟩ : ∃ z : Rat, Hid (gyl - by_ = z) := ⟨_, rfl⟩
  obtain ⟨wh2, Ewh2⟩ : ∃ z : Rat, Hid (gyh + by_ = z) := ⟨_, rfl⟩
  have Fl2 : Hid (gyl - mx (valO (some by_)) ((0 : Int) : Rat) = wl2) := by unfold Hid; rw [show valO (some by_) = by_ from rfl, mx_zero hby_]; exact Ewl2
  have Fh2 : Hid (gyh + mx (valO (some by_)) ((0 : Int) : Rat) = wh2) := by unfold Hid; rw [show valO (some by_) = by_ from rfl, mx_zero hby_]; exact Ewh2
  obtain ⟨wl3, Ewl3⟩ : ∃ z : Rat, Hid (gtl - sl = z) := ⟨_, rfl⟩
  obtain ⟨wh3, Ewh3⟩ : ∃ z : Rat, Hid (gth + sl = z) := ⟨_, rfl⟩
  have Fl3 : Hid (gtl - mx (valO (some sl)) ((0 : Int) : Rat) = wl3) := by unfold Hid; rw [show valO (some sl) = sl from rfl, mx_zero hsl]; exact Ewl3
  have Fh3 : Hid (gth + mx (valO (some sl)) ((0 : Int) : Rat) = wh3) := by unfold Hid; rw [show valO (some sl) = sl from rfl, mx_zero hsl]; exact Ewh3
  have W1 : Hid (Spn ((2 * (i + j + 1) + 8 * j + 17) + j + 1) (some wl1) (some wh1) wl1 wh1) := by have h1 := Ewl1.out; have h2 := Ewh1.out; rw [← h1, ← h2]; exact Spn.wide GX.out Zby_ hby_.out (by omega)
  have W2 : Hid (Spn ((2 * (i + j + 1) + 8 * j + 17) + j + 1) (some wl2) (some wh2) wl2 wh2) := by have h1 := Ewl2.out; have h2 := Ewh2.out; rw [← h1, ← h2]; exact Spn.wide GY.out Zby_ hby_.out (by omega)
  have W3 : Hid (Spn ((2 * (j + k) + 5) + j + 1) (some wl3) (some wh3) wl3 wh3) := by have h1 := Ewl3.out; have h2 := Ewh3.out; rw [← h1, ← h2]; exact Spn.wide GT.out Zsl hsl.out (by omega)
  have G3 : Hid (tWide (valO r2) wl3 wh3 = false) := by have h1 := Ewl3.out; have h2 := Ewh3.out; have h3 := Egtl.out; have h4 := Egth.out; rw [← h1, ← h2, ← h3, ← h4]; exact G2.out
  have Etl : Hid ((putP ⟨valO x2, valO y2, valO r2⟩ ⟨wl1, wh1, wl2, wh2, wl3, wh3⟩).a3 = tl) := by have h0 := Ftl.out; have h1 := Eo.out; have h2 := Egxl.out; have h3 := Egxh.out; have h4 := Egyl.out; have h5 := Egyh.out; have h6 := Egtl.out; have h7 := Egth.out; have h8 := Ewl1.out; have h9 := Ewh1.out; have h10 := Ewl2.out; have h11 := Ewh2.out; have h12 := Ewl3.out; have h13 := Ewh3.out; subst_vars; rfl
  have Eth : Hid ((putP ⟨valO x2, valO y2, valO r2⟩ ⟨wl1, wh1, wl2, wh2, wl3, wh3⟩).b3 = th) := by have h0 := Fth.out; have h1 := Eo.out; have h2 := Egxl.out; have h3 := Egxh.out; have h4 := Egyl.out; have h5 := Egyh.out; have h6 := Egtl.out; have h7 := Egth.out; have h8 := Ewl1.out; have h9 := Ewh1.out; have h10 := Ewl2.out; have h11 := Ewh2.out; have h12 := Ewl3.out; have h13 := Ewh3.out; subst_vars; rfl
  have Exl : Hid ((putP ⟨valO x2, valO y2, valO r2⟩ ⟨wl1, wh1, wl2, wh2, wl3, wh3⟩).a1 = xl) := by have h0 := Fxl.out; have h1 := Eo.out; have h2 := Egxl.out; have h3 := Egxh.out; have h4 := Egyl.out; have h5 := Egyh.out; have h6 := Egtl.out; have h7 := Egth.out; have h8 := Ewl1.out; have h9 := Ewh1.out; have h10 := Ewl2.out; have h11 := Ewh2.out; have h12 := Ewl3.out; have h13 := Ewh3.out; subst_vars; rfl
  have Exh : Hid ((putP ⟨valO x2, valO y2, valO r2⟩ ⟨wl1, wh1, wl2, wh2, wl3, wh3⟩).b1 = xh) := by have h0 := Fxh.out; have h1 := Eo.out; have h2 := Egxl.out; have h3 := Egxh.out; have h4 := Egyl.out; have h5 := Egyh.out; have h6 := Egtl.out; have h7 := Egth.out; have h8 := Ewl1.out; have h9 := Ewh1.out; have h10 := Ewl2.out; have h11 := Ewh2.out; have h12 := Ewl3.out; have h13 := Ewh3.out; subst_vars; rfl
  have Eyl : Hid ((putP ⟨valO x2, valO y2, valO r2⟩ ⟨wl1, wh1, wl2, wh2, wl3, wh3⟩).a2 = yl) := by have h0 := Fyl.out; have h1 := Eo.out; have h2 := Egxl.out; have h3 := Egxh.out; have h4 := Egyl.out; have h5 := Egyh.out; have h6 := Egtl.out; have h7 := Egth.out; have h8 := Ewl1.out; have h9 := Ewh1.out; have h10 := Ewl2.out; have h11 := Ewh2.out; have h12 := Ewl3.out; have h13 := Ewh3.out; subst_vars; rfl
  have Eyh : Hid ((putP ⟨valO x2, valO y2, valO r2⟩ ⟨wl1, wh1, wl2, wh2, wl3, wh3⟩).b2 = yh) := by have h0 := Fyh.out; have h1 := Eo.out; have h2 := Egxl.out; have h3 := Egxh.out; have h4 := Egyl.out; have h5 := Egyh.out; have h6 := Egtl.out; have h7 := Egth.out; have h8 := Ewl1.out; have h9 := Ewh1.out; have h10 := Ewl2.out; have h11 := Ewh2.out; have h12 := Ewl3.out; have h13 := Ewh3.out; subst_vars; rfl
  go_enter Tryz.func13, Tryz.ntmps13
  go_wp2_with (first
      | ((with_reducible refine isBox ?_); refine bxA H ?_; clear H; intro _ _ H)
      | ((with_reducible refine isAlloc ?_); refine alA H ?_; clear H; intro _ _ H))
  refine wp_region_F1 4 H (by kernel_rfl) (by kernel_rfl) rfl (by simp [Allocs, go_sem]; intro _ _; rfl) ?_
  simp only [List.take_succ_cons, List.take_zero, List.drop_succ_cons, List.drop_zero]
  repeat (first
      | ((with_reducible refine kLoad ?_); refine kldA H ?_))
  refine wpK_step (fun K hK => ?_)
  go_simp
  apply Exists.intro
  refine ⟨fun sx => ?_, hK _ ?_⟩
  · go_at_call 14
    exact ROf_any (0) o _ (by decide) (by decide) Eo (H.out.tbx sx)
  clear hK K
  refine wpK_step (fun K hK => ?_)
  go_simp
  apply Exists.intro
  refine ⟨fun sx => ?_, hK _ ?_⟩
  · go_at_call 14
    exact ROf_any (0) o _ (by decide) (by decide) Eo (H.out.tbx sx)
  clear hK K
  refine wpK_step (fun K hK => ?_)
  go_simp
  apply Exists.intro
  refine ⟨fun sx => ?_, hK _ ?_⟩
  · go_at_call 28
    exact Widen_any (j := i) (i := k) (m := 3) (some a1) (some b1) a1 b1 (some a2) (some b2) a2 b2 (some a3) (some b3) a3 b3 (some o) (some o) a1 b1 a2 b2 a3 b3 _ (by omega) A1 A2 A3 Zo1 Zo1 O1 Q1 O2 Q2 O3 Q3 (H.out.tbx sx)
  clear hK K
  refine wpKeep_nil ?_
  clear H
  intro _ _ H
  (simp only [Act.put, List.setIfInBounds_toArray, List.set_cons_succ, List.set_cons_zero])
  go_wp2_with (first
      | ((with_reducible refine isStore ?_); refine stA H ?_; clear H; intro _ H))
  rename_i g1 V1 g2 V2 g3 V3 g4 V4 g5 V5 V6 K7 hK7
  go_loopw [25] (fun i wr => (i = .int .i64 0 ∧ Hid (Hp w wr [(g5, 28, [.bool (sgO (some a1)), .string (nuO (some a1)), .string (deO (some a1)), .bool (sgO (some b1)), .string (nuO (some b1)), .string (deO (some b1)), .bool (sgO (some a2)), .string (nuO (some a2)), .string (deO (some a2)), .bool (sgO (some b2)), .string (nuO (some b2)), .string (deO (some b2)), .bool (sgO (some a3)), .string (nuO (some a3)), .string (deO (some a3)), .bool (sgO (some b3)), .string (nuO (some b3)), .string (deO (some b3))]), (g4, 28, [.bool false, .string ⟨#[]⟩, .string ⟨#[]⟩, .bool false, .string ⟨#[]⟩, .string ⟨#[]⟩, .bool false, .string ⟨#[]⟩, .string ⟨#[]⟩, .bool false, .string ⟨#[]⟩, .string ⟨#[]⟩, .bool false, .string ⟨#[]⟩, .string ⟨#[]⟩, .bool false, .string ⟨#[]⟩, .string ⟨#[]⟩]), (g3, 24, [.bool (sgO (some sl)), .string (nuO (some sl)), .string (deO (some sl))]), (g2, 24, [.bool (sgO (some by_)), .string (nuO (some by_)), .string (deO (some by_))]), (g1, 28, [.bool (sgO (some a1)), .string (nuO (some a1)), .string (deO (some a1)), .bool (sgO (some b1)), .string (nuO (some b1)), .string (deO (some b1)), .bool (sgO (some a2)), .string (nuO (some a2)), .string (deO (some a2)), .bool (sgO (some b2)), .string (nuO (some b2)), .string (deO (some b2)), .bool (sgO (some a3)), .string (nuO (some a3)), .string (deO (some a3)), .bool (sgO (some b3)), .string (nuO (some b3)), .string (deO (some b3))])])) ∨ (i = .int .i64 1 ∧ Hid (Hp w wr [(g5, 28, [.bool (sgO (some xl)), .string (nuO (some xl)), .string (deO (some xl)), .bool (sgO (some xh)), .string (nuO (some xh)), .string (deO (some xh)), .bool (sgO (some yl)), .string (nuO (some yl)), .string (deO (some yl)), .bool (sgO (some yh)), .string (nuO (some yh)), .string (deO (some yh)), .bool (sgO (some tl)), .string (nuO (some tl)), .string (deO (some tl)), .bool (sgO (some th)), .string (nuO (some th)), .string (deO (some th))]), (g4, 28, [.bool false, .string ⟨#[]⟩, .string ⟨#[]⟩, .bool false, .string ⟨#[]⟩, .string ⟨#[]⟩, .bool false, .string ⟨#[]⟩, .string ⟨#[]⟩, .bool false, .string ⟨#[]⟩, .string ⟨#[]⟩, .bool false, .string ⟨#[]⟩, .string ⟨#[]⟩, .bool false, .string ⟨#[]⟩, .string ⟨#[]⟩]), (g3, 24, [.bool (sgO (some sl)), .string (nuO (some sl)), .string (deO (some sl))]), (g2, 24, [.bool (sgO (some by_)), .string (nuO (some by_)), .string (deO (some by_))]), (g1, 28, [.bool (sgO (some a1)), .string (nuO (some a1)), .string (deO (some a1)), .bool (sgO (some b1)), .string (nuO (some b1)), .string (deO (some b1)), .bool (sgO (some a2)), .string (nuO (some a2)), .string (deO (some a2)), .bool (sgO (some b2)), .string (nuO (some b2)), .string (deO (some b2)), .bool (sgO (some a3)), .string (nuO (some a3)), .string (deO (some a3)), .bool (sgO (some b3)), .string (nuO (some b3)), .string (deO (some b3))])]))) (fun i _ => 1 - (intOf i).toNat)
  case atStart => exact .inl ⟨rfl, H⟩
  case round =>
    clear H
    rcases hrel with ⟨rfl, H⟩ | ⟨rfl, H⟩
    · go_wp2_with (first
          | go_skip
          | ((with_reducible refine isLoad ?_); refine ldX H X ?_)
          | ((with_reducible refine isLoad ?_); refine ldA H ?_)
          | ((with_reducible refine isLoad ?_); refine ld1A H ?_)
          | ((with_reducible refine isStore ?_); refine stA H ?_; clear H; intro _ H)
          | ((with_reducible refine isStore ?_); refine st1A H ?_; clear H; intro _ H)
          | ((with_reducible refine isBox ?_); refine bxA H ?_; clear H; intro _ _ H)
          | ((with_reducible refine isAlloc ?_); refine alA H ?_; clear H; intro _ _ H))
      refine (Grip_ok (i := i) (j := j) (k := k) (some a1) (some b1) a1 b1 (some a2) (some b2) a2 b2 (some a3) (some b3) a3 b3 x y r gtl gth gxl gxh gyl gyh _ (by omega) A1 A2 A3 Zx Zy Zr G Egtl Egth Egxl Egxh Egyl Egyh H.out.tb).mono ?_
      rintro _ _ ⟨rfl, hb⟩
      replace H := Lib.hid (H.out.go hb)
      clear hb
      go_wp2_with (first
          | ((with_reducible refine isStore ?_); refine stA H ?_; clear H; intro _ H)
          | ((with_reducible refine isAlloc ?_); refine alA H ?_; clear H; intro _ _ H))
      refine wp_region_U 7 11 [.p, .p, .p, .s] H (by kernel_rfl) (by kernel_rfl) (by kernel_rfl) (by decide) ?_
      simp only [List.take_succ_cons, List.take_zero, List.drop_succ_cons, List.drop_zero]
      repeat (first
          | ((with_reducible refine kLoad ?_); refine kldA H ?_))
      refine wpK_step (fun K hK => ?_)
      go_simp
      apply Exists.intro
      refine ⟨fun sx => ?_, hK _ ?_⟩
      · go_at_call 28
        exact Widen_any (j := 2 * (i + j + 1) + 8 * j + 17) (i := 2 * (j + k) + 5) (m := j) (some gxl) (some gxh) gxl gxh (some gyl) (some gyh) gyl gyh (some gtl) (some gth) gtl gth (some by_) (some sl) wl1 wh1 wl2 wh2 wl3 wh3 _ (by omega) GX GY GT Zby_ Zsl Fl1 Fh1 Fl2 Fh2 Fl3 Fh3 (H.out.tbx sx)
      clear hK K
      repeat (first
          | ((with_reducible refine kLoad ?_); refine kldA H ?_)
          | ((fail_if_success (with_reducible refine kCall ?_)); (with_reducible refine kCons ?_); refine wpK_step (fun K hK => ?_); go_simp; refine hK _ ?_; clear hK K))
      refine wpK_step (fun K hK => ?_)
      go_simp
      apply Exists.intro
      refine ⟨fun sx => ?_, hK _ ?_⟩
      · go_at_call 26
        exact Put_ok (i := 2 * (i + j + 1) + 8 * j + 17 + j + 1) (j := j) (k := 2 * (j + k) + 5 + j + 1) (some wl1) (some wh1) wl1 wh1 (some wl2) (some wh2) wl2 wh2 (some wl3) (some wh3) wl3 wh3 x2 y2 r2 tl th xl xh yl yh _ (by omega) W1 W2 W3 Zx2 Zy2 Zr2 G3 Etl Eth Exl Exh Eyl Eyh (H.out.tbx sx)
      clear hK K
      refine wpKeep_nil ?_
      refine wpL_P (by rfl) (by (first | exact wanted_none rfl | exact wanted_some rfl rfl)) (by intro W; first | (go_simp; rfl) | go_simp) ?_
      (simp only [Act.put, List.setIfInBounds_toArray, List.set_cons_succ, List.set_cons_zero])
      refine wpL_P (by rfl) (by (first | exact wanted_none rfl | exact wanted_some rfl rfl)) (by intro W; first | (go_simp; rfl) | go_simp) ?_
      (simp only [Act.put, List.setIfInBounds_toArray, List.set_cons_succ, List.set_cons_zero])
      refine wpL_P (by rfl) (by (first | exact wanted_none rfl | exact wanted_some rfl rfl)) (by intro W; first | (go_simp; rfl) | go_simp) ?_
      (simp only [Act.put, List.setIfInBounds_toArray, List.set_cons_succ, List.set_cons_zero])
      refine wpL_S (by rfl) rfl rfl rfl (by (first | exact rRat | exact rSpan | exact rPose | exact rFrame | exact rVec | exact rTurn | exact rBox)) (by rfl) (by rfl) (by (repeat (first | apply Upd.head | apply Upd.tail | assumption))) (by rfl) (by (simp only [List.drop, List.take, List.nil_append, List.cons_append]); rfl) (by exact Nat.le_of_ble_eq_true rfl) (by rfl) ?_
      refine wpL_nil ?_
      clear H
      intro _ H
      go_wp2_with (first
          | ((with_reducible refine isLoad ?_); refine ldA H ?_)
          | ((with_reducible refine isStore ?_); refine stA H ?_; clear H; intro _ H))
      replace H := Lib.hid H.out.drop.drop
      go_roundw
      case rel => exact .inr ⟨by go_num, H⟩
      case measure => simp [intOf]
    · go_wp2_with (first
          | go_skip
          | ((with_reducible refine isLoad ?_); refine ldA H ?_)
          | ((with_reducible refine isLoad ?_); refine ld1A H ?_)
          | ((with_reducible refine isStore ?_); refine stA H ?_; clear H; intro _ H)
          | ((with_reducible refine isStore ?_); refine st1A H ?_; clear H; intro _ H)
          | ((with_reducible refine isBox ?_); refine bxA H ?_; clear H; intro _ _ H)
          | ((with_reducible refine isAlloc ?_); refine alA H ?_; clear H; intro _ _ H))
      exact bodyPost_ret (results_Hv H Tryz.results13 (by (first | exact rRat | exact rSpan | exact rPose | exact rFrame | exact rVec | exact rTurn | exact rBox)) rfl (by (repeat (first | exact List.Mem.head _ | refine List.Mem.tail _ ?_ | assumption))) (by rfl) (by rfl)) rfl ⟨rfl, H.out.bel⟩
end Go.Proofs.YtolekonocbeekaaGreatDoor

namespace Go.Proofs.YtolekonocbeekaaGreatDoor
open Go.RowKit
set_option linter.unusedVariables false
set_option maxRecDepth 100000

set_option maxHeartbeats 4000000 in
theorem Drift_wide1 {i j k : Nat} (a1 b1 a2 b2 a3 b3 : Rat) (x : Option Rat) (y : Option Rat) (r : Option Rat) (x2 : Option Rat) (y2 : Option Rat) (r2 : Option Rat) (by_ sl : Rat) (c : Nat) (w : World) (hk : i ≤ 1010 ∧ k ≤ 1400 ∧ j ≤ 20) (A1 : Hid (Spn i (some a1) (some b1) a1 b1)) (A2 : Hid (Spn i (some a2) (some b2) a2 b2)) (A3 : Hid (Spn k (some a3) (some b3) a3 b3)) (Zx : Hid (SzO j x)) (Zy : Hid (SzO j y)) (Zr : Hid (SzO j r)) (Zx2 : Hid (SzO j x2)) (Zy2 : Hid (SzO j y2)) (Zr2 : Hid (SzO j r2)) (Zby_ : Hid (Sz j by_)) (hby_ : Hid (0 ≤ by_)) (Zsl : Hid (Sz j sl)) (hsl : Hid (0 ≤ sl)) (X : Hid (Blk w c 50 [.bool (sgO x), .string (nuO x), .string (deO x), .bool (sgO y), .string (nuO y), .string (deO y), .bool false, .bool (sgO r), .string (nuO r), .string (deO r), .bool (sgO x2), .string (nuO x2), .string (deO x2), .bool (sgO y2), .string (nuO y2), .string (deO y2), .bool false, .bool (sgO r2), .string (nuO r2), .string (deO r2)].toArray)) (G : Hid (tWide (-(valO r)) a3 b3 = true)) (hT : Tb w) :
    Calls Tryz.prog 13 #[.agg #[.bool (sgO (some a1)), .string (nuO (some a1)), .string (deO (some a1)), .bool (sgO (some b1)), .string (nuO (some b1)), .string (deO (some b1)), .bool (sgO (some a2)), .string (nuO (some a2)), .string (deO (some a2)), .bool (sgO (some b2)), .string (nuO (some b2)), .string (deO (some b2)), .bool (sgO (some a3)), .string (nuO (some a3)), .string (deO (some a3)), .bool (sgO (some b3)), .string (nuO (some b3)), .string (deO (some b3))], .slice (some ⟨c, 0, none⟩) 1 1, .agg #[.bool (sgO (some by_)), .string (nuO (some by_)), .string (deO (some by_))], .agg #[.bool (sgO (some sl)), .string (nuO (some sl)), .string (deO (some sl))]] w fun e w' => e = .returned (.tuple #[.agg #[.bool false, .string ⟨#[]⟩, .string ⟨#[]⟩, .bool false, .string ⟨#[]⟩, .string ⟨#[]⟩, .bool false, .string ⟨#[]⟩, .string ⟨#[]⟩, .bool false, .string ⟨#[]⟩, .string ⟨#[]⟩, .bool false, .string ⟨#[]⟩, .string ⟨#[]⟩, .bool false, .string ⟨#[]⟩, .string ⟨#[]⟩], .int .i64 18]) ∧ Below w.heap.size w w' := by
  have H := Lib.hid (Hp.start hT)
  clear hT
  have Sx : Hid (SmO x) := SzO.sm Zx (by omega)
  have Sy : Hid (SmO y) := SzO.sm Zy (by omega)
  have Sr : Hid (SmO r) := SzO.sm Zr (by omega)
  have Sx2 : Hid (SmO x2) := SzO.sm Zx2 (by omega)
  have Sy2 : Hid (SmO y2) := SzO.sm Zy2 (by omega)
  have Sr2 : Hid (SmO r2) := SzO.sm Zr2 (by omega)
  have Sby_ : Hid (SmO (some by_)) := Sz.o Zby_ (by omega)
  have Ssl : Hid (SmO (some sl)) := Sz.o Zsl (by omega)
  obtain ⟨o, Eo⟩ : ∃ z : Rat, Hid (((0 : Int) : Rat) = z) := ⟨_, rfl⟩
  have Zo : Hid (Sz 3 o) := szEq Eo (Sz.int (0) (by decide))
  have So : Hid (SmO (some o)) := Sz.o Zo (by omega)
  have Zo1 : Hid (Sz 3 o) := Zo
  have O1 : Hid (a1 - mx (valO (some o)) ((0 : Int) : Rat) = a1) := by have h := Eo.out; subst h; exact wid0L a1
  have Q1 : Hid (b1 + mx (valO (some o)) ((0 : Int) : Rat) = b1) := by have h := Eo.out; subst h; exact wid0H b1
  have O2 : Hid (a2 - mx (valO (some o)) ((0 : Int) : Rat) = a2) := by have h := Eo.out; subst h; exact wid0L a2
  have Q2 : Hid (b2 + mx (valO (some o)) ((0 : Int) : Rat) = b2) := by have h := Eo.out; subst h; exact wid0H b2
  have O3 : Hid (a3 - mx (valO (some o)) ((0 : Int) : Rat) = a3) := by have h := Eo.out; subst h; exact wid0L a3
  have Q3 : Hid (b3 + mx (valO (some o)) ((0 : Int) : Rat) = b3) := by have h := Eo.out; subst h; exact wid0H b3
  go_enter Tryz.func13, Tryz.ntmps13
  go_wp2_with (first
      | ((with_reducible refine isBox ?_); refine bxA H ?_; clear H; intro _ _ H)
      | ((with_reducible refine isAlloc ?_); refine alA H ?_; clear H; intro _ _ H))
  refine wp_region_F1 4 H (by kernel_rfl) (by kernel_rfl) rfl (by simp [Allocs, go_sem]; intro _ _; rfl) ?_
  simp only [List.take_succ_cons, List.take_zero, List.drop_succ_cons, List.drop_zero]
  repeat (first
      | ((with_reducible refine kLoad ?_); refine kldA H ?_))
  refine wpK_step (fun K hK => ?_)
  go_simp
  apply Exists.intro
  refine ⟨fun sx => ?_, hK _ ?_⟩
  · go_at_call 14
    exact ROf_any (0) o _ (by decide) (by decide) Eo (H.out.tbx sx)
  clear hK K
  refine wpK_step (fun K hK => ?_)
  go_simp
  apply Exists.intro
  refine ⟨fun sx => ?_, hK _ ?_⟩
  · go_at_call 14
    exact ROf_any (0) o _ (by decide) (by decide) Eo (H.out.tbx sx)
  clear hK K
  refine wpK_step (fun K hK => ?_)
  go_simp
  apply Exists.intro
  refine ⟨fun sx => ?_, hK _ ?_⟩
  · go_at_call 28
    exact Widen_any (j := i) (i := k) (m := 3) (some a1) (some b1) a1 b1 (some a2) (some b2) a2 b2 (some a3) (some b3) a3 b3 (some o) (some o) a1 b1 a2 b2 a3 b3 _ (by omega) A1 A2 A3 Zo1 Zo1 O1 Q1 O2 Q2 O3 Q3 (H.out.tbx sx)
  clear hK K
  refine wpKeep_nil ?_
  clear H
  intro _ _ H
  (simp only [Act.put, List.setIfInBounds_toArray, List.set_cons_succ, List.set_cons_zero])
  go_wp2_with (first
      | ((with_reducible refine isStore ?_); refine stA H ?_; clear H; intro _ H))
  rename_i g1 V1 g2 V2 g3 V3 g4 V4 g5 V5 V6 K7 hK7
  go_loopw [25] (fun i wr => (i = .int .i64 0 ∧ Hid (Hp w wr [(g5, 28, [.bool (sgO (some a1)), .string (nuO (some a1)), .string (deO (some a1)), .bool (sgO (some b1)), .string (nuO (some b1)), .string (deO (some b1)), .bool (sgO (some a2)), .string (nuO (some a2)), .string (deO (some a2)), .bool (sgO (some b2)), .string (nuO (some b2)), .string (deO (some b2)), .bool (sgO (some a3)), .string (nuO (some a3)), .string (deO (some a3)), .bool (sgO (some b3)), .string (nuO (some b3)), .string (deO (some b3))]), (g4, 28, [.bool false, .string ⟨#[]⟩, .string ⟨#[]⟩, .bool false, .string ⟨#[]⟩, .string ⟨#[]⟩, .bool false, .string ⟨#[]⟩, .string ⟨#[]⟩, .bool false, .string ⟨#[]⟩, .string ⟨#[]⟩, .bool false, .string ⟨#[]⟩, .string ⟨#[]⟩, .bool false, .string ⟨#[]⟩, .string ⟨#[]⟩]), (g3, 24, [.bool (sgO (some sl)), .string (nuO (some sl)), .string (deO (some sl))]), (g2, 24, [.bool (sgO (some by_)), .string (nuO (some by_)), .string (deO (some by_))]), (g1, 28, [.bool (sgO (some a1)), .string (nuO (some a1)), .string (deO (some a1)), .bool (sgO (some b1)), .string (nuO (some b1)), .string (deO (some b1)), .bool (sgO (some a2)), .string (nuO (some a2)), .string (deO (some a2)), .bool (sgO (some b2)), .string (nuO (some b2)), .string (deO (some b2)), .bool (sgO (some a3)), .string (nuO (some a3)), .string (deO (some a3)), .bool (sgO (some b3)), .string (nuO (some b3)), .string (deO (some b3))])]))) (fun i _ => 1 - (intOf i).toNat)
  case atStart => exact ⟨rfl, H⟩
  case round =>
    clear H
    obtain ⟨rfl, H⟩ := hrel
    go_wp2_with (first
        | ((with_reducible refine isLoad ?_); refine ldX H X ?_)
        | ((with_reducible refine isLoad ?_); refine ldA H ?_)
        | ((with_reducible refine isStore ?_); refine stA H ?_; clear H; intro _ H)
        | ((with_reducible refine isAlloc ?_); refine alA H ?_; clear H; intro _ _ H))
    refine (Grip_wide (i := i) (j := j) (k := k) (some a1) (some b1) a1 b1 (some a2) (some b2) a2 b2 (some a3) (some b3) a3 b3 x y r _ (by omega) A1 A2 A3 Zx Zy Zr G H.out.tb).mono ?_
    rintro _ _ ⟨rfl, hb⟩
    replace H := Lib.hid (H.out.go hb)
    clear hb
    go_wp2_with (first
        | ((with_reducible refine isStore ?_); refine stA H ?_; clear H; intro _ H)
        | ((with_reducible refine isAlloc ?_); refine alA H ?_; clear H; intro _ _ H))
    exact bodyPost_ret (results_Hv H Tryz.results13 (by (first | exact rRat | exact rSpan | exact rPose | exact rFrame | exact rVec | exact rTurn | exact rBox)) rfl (by (repeat (first | exact List.Mem.head _ | refine List.Mem.tail _ ?_ | assumption))) (by rfl) (by rfl)) rfl ⟨rfl, H.out.bel⟩

set_option maxHeartbeats 4000000 in
theorem Drift_wide2 {i j k : Nat} (a1 b1 a2 b2 a3 b3 : Rat) (x : Option Rat) (y : Option Rat) (r : Option Rat) (x2 : Option Rat) (y2 : Option Rat) (r2 : Option Rat) (by_ sl : Rat) (c : Nat) (w : World) (hk : i ≤ 1010 ∧ k ≤ 1400 ∧ j ≤ 20) (A1 : Hid (Spn i (some a1) (some b1) a1 b1)) (A2 : Hid (Spn i (some a2) (some b2) a2 b2)) (A3 : Hid (Spn k (some a3) (some b3) a3 b3)) (Zx : Hid (SzO j x)) (Zy : Hid (SzO j y)) (Zr : Hid (SzO j r)) (Zx2 : Hid (SzO j x2)) (Zy2 : Hid (SzO j y2)) (Zr2 : Hid (SzO j r2)) (Zby_ : Hid (Sz j by_)) (hby_ : Hid (0 ≤ by_)) (Zsl : Hid (Sz j sl)) (hsl : Hid (0 ≤ sl)) (X : Hid (Blk w c 50 [.bool (sgO x), .string (nuO x), .string (deO x), .bool (sgO y), .string (nuO y), .string (deO y), .bool false, .bool (sgO r), .string (nuO r), .string (deO r), .bool (sgO x2), .string (nuO x2), .string (deO x2), .bool (sgO y2), .string (nuO y2), .string (deO y2), .bool false, .bool (sgO r2), .string (nuO r2), .string (deO r2)].toArray)) (G : Hid (tWide (-(valO r)) a3 b3 = false)) (G2 : Hid (tWide (valO r2) (tvQ (-(valO r)) a3 - sl) (tvQ (-(valO r)) b3 + sl) = true)) (hT : Tb w) :
    Calls Tryz.prog 13 #[.agg #[.bool (sgO (some a1)), .string (nuO (some a1)), .string (deO (some a1)), .bool (sgO (some b1)), .string (nuO (some b1)), .string (deO (some b1)), .bool (sgO (some a2)), .string (nuO (some a2)), .string (deO (some a2)), .bool (sgO (some b2)), .string (nuO (some b2)), .string (deO (some b2)), .bool (sgO (some a3)), .string (nuO (some a3)), .string (deO (some a3)), .bool (sgO (some b3)), .string (nuO (some b3)), .string (deO (some b3))], .slice (some ⟨c, 0, none⟩) 1 1, .agg #[.bool (sgO (some by_)), .string (nuO (some by_)), .string (deO (some by_))], .agg #[.bool (sgO (some sl)), .string (nuO (some sl)), .string (deO (some sl))]] w fun e w' => e = .returned (.tuple #[.agg #[.bool false, .string ⟨#[]⟩, .string ⟨#[]⟩, .bool false, .string ⟨#[]⟩, .string ⟨#[]⟩, .bool false, .string ⟨#[]⟩, .string ⟨#[]⟩, .bool false, .string ⟨#[]⟩, .string ⟨#[]⟩, .bool false, .string ⟨#[]⟩, .string ⟨#[]⟩, .bool false, .string ⟨#[]⟩, .string ⟨#[]⟩], .int .i64 18]) ∧ Below w.heap.size w w' := by
  have H := Lib.hid (Hp.start hT)
  clear hT
  have Sx : Hid (SmO x) := SzO.sm Zx (by omega)
  have Sy : Hid (SmO y) := SzO.sm Zy (by omega)
  have Sr : Hid (SmO r) := SzO.sm Zr (by omega)
  have Sx2 : Hid (SmO x2) := SzO.sm Zx2 (by omega)
  have Sy2 : Hid (SmO y2) := SzO.sm Zy2 (by omega)
  have Sr2 : Hid (SmO r2) := SzO.sm Zr2 (by omega)
  have Sby_ : Hid (SmO (some by_)) := Sz.o Zby_ (by omega)
  have Ssl : Hid (SmO (some sl)) := Sz.o Zsl (by omega)
  obtain ⟨o, Eo⟩ : ∃ z : Rat, Hid (((0 : Int) : Rat) = z) := ⟨_, rfl⟩
  have Zo : Hid (Sz 3 o) := szEq Eo (Sz.int (0) (by decide))
  have So : Hid (SmO (some o)) := Sz.o Zo (by omega)
  have Zo1 : Hid (Sz 3 o) := Zo
  have O1 : Hid (a1 - mx (valO (some o)) ((0 : Int) : Rat) = a1) := by have h := Eo.out; subst h; exact wid0L a1
  have Q1 : Hid (b1 + mx (valO (some o)) ((0 : Int) : Rat) = b1) := by have h := Eo.out; subst h; exact wid0H b1
  have O2 : Hid (a2 - mx (valO (some o)) ((0 : Int) : Rat) = a2) := by have h := Eo.out; subst h; exact wid0L a2
  have Q2 : Hid (b2 + mx (valO (some o)) ((0 : Int) : Rat) = b2) := by have h := Eo.out; subst h; exact wid0H b2
  have O3 : Hid (a3 - mx (valO (some o)) ((0 : Int) : Rat) = a3) := by have h := Eo.out; subst h; exact wid0L a3
  have Q3 : Hid (b3 + mx (valO (some o)) ((0 : Int) : Rat) = b3) := by have h := Eo.out; subst h; exact wid0H b3
  obtain ⟨gxl, Egxl⟩ : ∃ z : Rat, Hid ((gripP ⟨valO x, valO y, valO r⟩ ⟨a1, b1, a2, b2, a3, b3⟩).a1 = z) := ⟨_, rfl⟩
  obtain ⟨gxh, Egxh⟩ : ∃ z : Rat, Hid ((gripP ⟨valO x, valO y, valO r⟩ ⟨a1, b1, a2, b2, a3, b3⟩).b1 = z) := ⟨_, rfl⟩
  obtain ⟨gyl, Egyl⟩ : ∃ z : Rat, Hid ((gripP ⟨valO x, valO y, valO r⟩ ⟨a1, b1, a2, b2, a3, b3⟩).a2 = z) := ⟨_, rfl⟩
  obtain ⟨gyh, Egyh⟩ : ∃ z : Rat, Hid ((gripP ⟨valO x, valO y, valO r⟩ ⟨a1, b1, a2, b2, a3, b3⟩).b2 = z) := ⟨_, rfl⟩
  obtain ⟨gtl, Egtl⟩ : ∃ z : Rat, Hid ((gripP ⟨valO x, valO y, valO r⟩ ⟨a1, b1, a2, b2, a3, b3⟩).a3 = z) := ⟨_, rfl⟩
  obtain ⟨gth, Egth⟩ : ∃ z : Rat, Hid ((gripP ⟨valO x, valO y, valO r⟩ ⟨a1, b1, a2, b2, a3, b3⟩).b3 = z) := ⟨_, rfl⟩
  have GX : Hid (Spn (2 * (i + j + 1) + 8 * j + 17) (some gxl) (some gxh) gxl gxh) := by have h1 := Egxl.out; have h2 := Egxh.out; rw [← h1, ← h2]; exact Spn.rx (Spn.sub A1.out (Spn.of Zx (by omega)) rfl rfl (by omega)) (Spn.sub A2.out (Spn.of Zy (by omega)) rfl rfl (by omega)) (Sz.neg Zr) (by omega)
  have GY : Hid (Spn (2 * (i + j + 1) + 8 * j + 17) (some gyl) (some gyh) gyl gyh) := by have h1 := Egyl.out; have h2 := Egyh.out; rw [← h1, ← h2]; exact Spn.ry (Spn.sub A1.out (Spn.of Zx (by omega)) rfl rfl (by omega)) (Spn.sub A2.out (Spn.of Zy (by omega)) rfl rfl (by omega)) (Sz.neg Zr) (by omega)
  have GT : Hid (Spn (2 * (j + k) + 5) (some gtl) (some gth) gtl gth) := by have h1 := Egtl.out; have h2 := Egth.out; rw [← h1, ← h2]; exact Spn.tv A3.out (Sz.neg Zr) G.out (by omega)
  obtain ⟨wl1, Ewl1⟩ : ∃ z : Rat, Hid (gxl - by_ = z) := ⟨_, rfl⟩
  obtain ⟨wh1, Ewh1⟩ : ∃ z : Rat, Hid (gxh + by_ = z) := ⟨_, rfl⟩
  have Fl1 : Hid (gxl - mx (valO (some by_)) ((0 : Int) : Rat) = wl1) := by unfold Hid; rw [show valO (some by_) = by_ from rfl, mx_zero hby_]; exact Ewl1
  have Fh1 : Hid (gxh + mx (valO (some by_)) ((0 : Int) : Rat) = wh1) := by unfold Hid; rw [show valO (some by_) = by_ from rfl, mx_zero hby_]; exact Ewh1
  obtain ⟨wl2, Ewl2⟩ : ∃ z : Rat, Hid (gyl - by_ = z) := ⟨_, rfl⟩
  obtain ⟨wh2, Ewh2⟩ : ∃ z : Rat, Hid (gyh + by_ = z) := ⟨_, rfl⟩
  have Fl2 : Hid (gyl - mx (valO (some by_)) ((0 : Int) : Rat) = wl2) := by unfold Hid; rw [show valO (some by_) = by_ from rfl, mx_zero hby_]; exact Ewl2
  have Fh2 : Hid (gyh + mx (valO (some by_)) ((0 : Int) : Rat) = wh2) := by unfold Hid; rw [show valO (some by_) = by_ from rfl, mx_zero hby_]; exact Ewh2
  obtain ⟨wl3, Ewl3⟩ : ∃ z : Rat, Hid (gtl - sl = z) := ⟨_, rfl⟩
  obtain ⟨wh3, Ewh3⟩ : ∃ z : Rat, Hid (gth + sl = z) := ⟨_, rfl⟩
  have Fl3 : Hid (gtl - mx (valO (some sl)) ((0 : Int) : Rat) = wl3) := by unfold Hid; rw [show valO (some sl) = sl from rfl, mx_zero hsl]; exact Ewl3
  have Fh3 : Hid (gth + mx (valO (some sl)) ((0 : Int) : Rat) = wh3) := by unfold Hid; rw [show valO (some sl) = sl from rfl, mx_zero hsl]; exact Ewh3
  have W1 : Hid (Spn ((2 * (i + j + 1) + 8 * j + 17) + j + 1) (some wl1) (some wh1) wl1 wh1) := by have h1 := Ewl1.out; have h2 := Ewh1.out; rw [← h1, ← h2]; exact Spn.wide GX.out Zby_ hby_.out (by omega)
  have W2 : Hid (Spn ((2 * (i + j + 1) + 8 * j + 17) + j + 1) (some wl2) (some wh2) wl2 wh2) := by have h1 := Ewl2.out; have h2 := Ewh2.out; rw [← h1, ← h2]; exact Spn.wide GY.out Zby_ hby_.out (by omega)
  have W3 : Hid (Spn ((2 * (j + k) + 5) + j + 1) (some wl3) (some wh3) wl3 wh3) := by have h1 := Ewl3.out; have h2 := Ewh3.out; rw [← h1, ← h2]; exact Spn.wide GT.out Zsl hsl.out (by omega)
  have G3 : Hid (tWide (valO r2) wl3 wh3 = true) := by have h1 := Ewl3.out; have h2 := Ewh3.out; have h3 := Egtl.out; have h4 := Egth.out; rw [← h1, ← h2, ← h3, ← h4]; exact G2.out
  go_enter Tryz.func13, Tryz.ntmps13
  go_wp2_with (first
      | ((with_reducible refine isBox ?_); refine bxA H ?_; clear H; intro _ _ H)
      | ((with_reducible refine isAlloc ?_); refine alA H ?_; clear H; intro _ _ H))
  refine wp_region_F1 4 H (by kernel_rfl) (by kernel_rfl) rfl (by simp [Allocs, go_sem]; intro _ _; rfl) ?_
  simp only [List.take_succ_cons, List.take_zero, List.drop_succ_cons, List.drop_zero]
  repeat (first
      | ((with_reducible refine kLoad ?_); refine kldA H ?_))
  refine wpK_step (fun K hK => ?_)
  go_simp
  apply Exists.intro
  refine ⟨fun sx => ?_, hK _ ?_⟩
  · go_at_call 14
    exact ROf_any (0) o _ (by decide) (by decide) Eo (H.out.tbx sx)
  clear hK K
  refine wpK_step (fun K hK => ?_)
  go_simp
  apply Exists.intro
  refine ⟨fun sx => ?_, hK _ ?_⟩
  · go_at_call 14
    exact ROf_any (0) o _ (by decide) (by decide) Eo (H.out.tbx sx)
  clear hK K
  refine wpK_step (fun K hK => ?_)
  go_simp
  apply Exists.intro
  refine ⟨fun sx => ?_, hK _ ?_⟩
  · go_at_call 28
    exact Widen_any (j := i) (i := k) (m := 3) (some a1) (some b1) a1 b1 (some a2) (some b2) a2 b2 (some a3) (some b3) a3 b3 (some o) (some o) a1 b1 a2 b2 a3 b3 _ (by omega) A1 A2 A3 Zo1 Zo1 O1 Q1 O2 Q2 O3 Q3 (H.out.tbx sx)
  clear hK K
  refine wpKeep_nil ?_
  clear H
  intro _ _ H
  (simp only [Act.put, List.setIfInBounds_toArray, List.set_cons_succ, List.set_cons_zero])
  go_wp2_with (first
      | ((with_reducible refine isStore ?_); refine stA H ?_; clear H; intro _ H))
  rename_i g1 V1 g2 V2 g3 V3 g4 V4 g5 V5 V6 K7 hK7
  go_loopw [25] (fun i wr => (i = .int .i64 0 ∧ Hid (Hp w wr [(g5, 28, [.bool (sgO (some a1)), .string (nuO (some a1)), .string (deO (some a1)), .bool (sgO (some b1)), .string (nuO (some b1)), .string (deO (some b1)), .bool (sgO (some a2)), .string (nuO (some a2)), .string (deO (some a2)), .bool (sgO (some b2)), .string (nuO (some b2)), .string (deO (some b2)), .bool (sgO (some a3)), .string (nuO (some a3)), .string (deO (some a3)), .bool (sgO (some b3)), .string (nuO (some b3)), .string (deO (some b3))]), (g4, 28, [.bool false, .string ⟨#[]⟩, .string ⟨#[]⟩, .bool false, .string ⟨#[]⟩, .string ⟨#[]⟩, .bool false, .string ⟨#[]⟩, .string ⟨#[]⟩, .bool false, .string ⟨#[]⟩, .string ⟨#[]⟩, .bool false, .string ⟨#[]⟩, .string ⟨#[]⟩, .bool false, .string ⟨#[]⟩, .string ⟨#[]⟩]), (g3, 24, [.bool (sgO (some sl)), .string (nuO (some sl)), .string (deO (some sl))]), (g2, 24, [.bool (sgO (some by_)), .string (nuO (some by_)), .string (deO (some by_))]), (g1, 28, [.bool (sgO (some a1)), .string (nuO (some a1)), .string (deO (some a1)), .bool (sgO (some b1)), .string (nuO (some b1)), .string (deO (some b1)), .bool (sgO (some a2)), .string (nuO (some a2)), .string (deO (some a2)), .bool (sgO (some b2)), .string (nuO (some b2)), .string (deO (some b2)), .bool (sgO (some a3)), .string (nuO (some a3)), .string (deO (some a3)), .bool (sgO (some b3)), .string (nuO (some b3)), .string (deO (some b3))])]))) (fun i _ => 1 - (intOf i).toNat)
  case atStart => exact ⟨rfl, H⟩
  case round =>
    clear H
    obtain ⟨rfl, H⟩ := hrel
    go_wp2_with (first
        | ((with_reducible refine isLoad ?_); refine ldX H X ?_)
        | ((with_reducible refine isLoad ?_); refine ldA H ?_)
        | ((with_reducible refine isStore ?_); refine stA H ?_; clear H; intro _ H)
        | ((with_reducible refine isAlloc ?_); refine alA H ?_; clear H; intro _ _ H))
    refine (Grip_ok (i := i) (j := j) (k := k) (some a1) (some b1) a1 b1 (some a2) (some b2) a2 b2 (some a3) (some b3) a3 b3 x y r gtl gth gxl gxh gyl gyh _ (by omega) A1 A2 A3 Zx Zy Zr G Egtl Egth Egxl Egxh Egyl Egyh H.out.tb).mono ?_
    rintro _ _ ⟨rfl, hb⟩
    replace H := Lib.hid (H.out.go hb)
    clear hb
    go_wp2_with (first
        | ((with_reducible refine isStore ?_); refine stA H ?_; clear H; intro _ H)
        | ((with_reducible refine isAlloc ?_); refine alA H ?_; clear H; intro _ _ H))
    refine wp_region_U 7 11 [.p, .p, .p, .s] H (by kernel_rfl) (by kernel_rfl) (by kernel_rfl) (by decide) ?_
    simp only [List.take_succ_cons, List.take_zero, List.drop_succ_cons, List.drop_zero]
    repeat (first
        | ((with_reducible refine kLoad ?_); refine kldA H ?_))
    refine wpK_step (fun K hK => ?_)
    go_simp
    apply Exists.intro
    refine ⟨fun sx => ?_, hK _ ?_⟩
    · go_at_call 28
      exact Widen_any (j := 2 * (i + j + 1) + 8 * j + 17) (i := 2 * (j + k) + 5) (m := j) (some gxl) (some gxh) gxl gxh (some gyl) (some gyh) gyl gyh (some gtl) (some gth) gtl gth (some by_) (some sl) wl1 wh1 wl2 wh2 wl3 wh3 _ (by omega) GX GY GT Zby_ Zsl Fl1 Fh1 Fl2 Fh2 Fl3 Fh3 (H.out.tbx sx)
    clear hK K
    repeat (first
        | ((with_reducible refine kLoad ?_); refine kldA H ?_)
        | ((fail_if_success (with_reducible refine kCall ?_)); (with_reducible refine kCons ?_); refine wpK_step (fun K hK => ?_); go_simp; refine hK _ ?_; clear hK K))
    refine wpK_step (fun K hK => ?_)
    go_simp
    apply Exists.intro
    refine ⟨fun sx => ?_, hK _ ?_⟩
    · go_at_call 26
      exact Put_wide (i := 2 * (i + j + 1) + 8 * j + 17 + j + 1) (j := j) (k := 2 * (j + k) + 5 + j + 1) (some wl1) (some wh1) wl1 wh1 (some wl2) (some wh2) wl2 wh2 (some wl3) (some wh3) wl3 wh3 x2 y2 r2 _ (by omega) W1 W2 W3 Zx2 Zy2 Zr2 G3 (H.out.tbx sx)
    clear hK K
    refine wpKeep_nil ?_
    refine wpL_P (by rfl) (by (first | exact wanted_none rfl | exact wanted_some rfl rfl)) (by intro W; first | (go_simp; rfl) | go_simp) ?_
    (simp only [Act.put, List.setIfInBounds_toArray, List.set_cons_succ, List.set_cons_zero])
    refine wpL_P (by rfl) (by (first | exact wanted_none rfl | exact wanted_some rfl rfl)) (by intro W; first | (go_simp; rfl) | go_simp) ?_
    (simp only [Act.put, List.setIfInBounds_toArray, List.set_cons_succ, List.set_cons_zero])
    refine wpL_P (by rfl) (by (first | exact wanted_none rfl | exact wanted_some rfl rfl)) (by intro W; first | (go_simp; rfl) | go_simp) ?_
    (simp only [Act.put, List.setIfInBounds_toArray, List.set_cons_succ, List.set_cons_zero])
    refine wpL_S (by rfl) rfl rfl rfl (by (first | exact rRat | exact rSpan | exact rPose | exact rFrame | exact rVec | exact rTurn | exact rBox)) (by rfl) (by rfl) (by (repeat (first | apply Upd.head | apply Upd.tail | assumption))) (by rfl) (by (simp only [List.drop, List.take, List.nil_append, List.cons_append]); rfl) (by exact Nat.le_of_ble_eq_true rfl) (by rfl) ?_
    refine wpL_nil ?_
    clear H
    intro _ H
    go_wp2_with (first
        | ((with_reducible refine isStore ?_); refine stA H ?_; clear H; intro _ H))
    exact bodyPost_ret (results_Hv H Tryz.results13 (by (first | exact rRat | exact rSpan | exact rPose | exact rFrame | exact rVec | exact rTurn | exact rBox)) rfl (by (repeat (first | exact List.Mem.head _ | refine List.Mem.tail _ ?_ | assumption))) (by rfl) (by rfl)) rfl ⟨rfl, H.out.bel⟩
end Go.Proofs.YtolekonocbeekaaGreatDoor

namespace Go.Proofs.YtolekonocbeekaaGreatDoor
open Go.RowKit
set_option linter.unusedVariables false
set_option maxRecDepth 100000

theorem btw_mul {c p q x : Rat} (h1 : p ≤ x) (h2 : x ≤ q) {m : Rat} (hp : m ≤ c * p) (hq : m ≤ c * q) : m ≤ c * x := by
  rcases (Rat.le_total : (0 : Rat) ≤ c ∨ c ≤ 0) with h | h
  · have := Rat.mul_nonneg h (show 0 ≤ x - p by grind)
    grind
  · have := Rat.mul_nonneg (show 0 ≤ -c by grind) (show 0 ≤ q - x by grind)
    grind
theorem btw_mulH {c p q x : Rat} (h1 : p ≤ x) (h2 : x ≤ q) {m : Rat} (hp : c * p ≤ m) (hq : c * q ≤ m) : c * x ≤ m := by
  have := btw_mul (c := -c) h1 h2 (m := -m) (by grind) (by grind)
  grind
/-- A product of two values of spans is within the product of the spans. -/
theorem mul_in {p q r s c x : Rat} (c1 : p ≤ c) (c2 : c ≤ q) (x1 : r ≤ x) (x2 : x ≤ s) : mulL p q r s ≤ c * x ∧ c * x ≤ mulH p q r s := by
  obtain ⟨l1, l2, l3, l4⟩ := mulL_le p q r s
  obtain ⟨h1, h2, h3, h4⟩ := le_mulH p q r s
  constructor
  · refine btw_mul x1 x2 ?_ ?_
    · rw [Rat.mul_comm]
      exact btw_mul c1 c2 (by rw [Rat.mul_comm]; exact l1) (by rw [Rat.mul_comm]; exact l3)
    · rw [Rat.mul_comm]
      exact btw_mul c1 c2 (by rw [Rat.mul_comm]; exact l2) (by rw [Rat.mul_comm]; exact l4)
  · refine btw_mulH x1 x2 ?_ ?_
    · rw [Rat.mul_comm]
      exact btw_mulH c1 c2 (by rw [Rat.mul_comm]; exact h1) (by rw [Rat.mul_comm]; exact h3)
    · rw [Rat.mul_comm]
      exact btw_mulH c1 c2 (by rw [Rat.mul_comm]; exact h2) (by rw [Rat.mul_comm]; exact h4)
theorem le_mulL {p q r s m : Rat} (h1 : m ≤ p * r) (h2 : m ≤ p * s) (h3 : m ≤ q * r) (h4 : m ≤ q * s) : m ≤ mulL p q r s := by
  show m ≤ mn (mn (mn (p * r) (p * s)) (q * r)) (q * s)
  rcases mn_eq (mn (mn (p * r) (p * s)) (q * r)) (q * s) with e | e <;> rw [e]
  · rcases mn_eq (mn (p * r) (p * s)) (q * r) with e | e <;> rw [e]
    · rcases mn_eq (p * r) (p * s) with e | e <;> rw [e]
      · exact h1
      · exact h2
    · exact h3
  · exact h4
theorem mulH_le {p q r s m : Rat} (h1 : p * r ≤ m) (h2 : p * s ≤ m) (h3 : q * r ≤ m) (h4 : q * s ≤ m) : mulH p q r s ≤ m := by
  show mx (mx (mx (p * r) (p * s)) (q * r)) (q * s) ≤ m
  rcases mx_eq (mx (mx (p * r) (p * s)) (q * r)) (q * s) with e | e <;> rw [e]
  · rcases mx_eq (mx (p * r) (p * s)) (q * r) with e | e <;> rw [e]
    · rcases mx_eq (p * r) (p * s) with e | e <;> rw [e]
      · exact h1
      · exact h2
    · exact h3
  · exact h4
/-- Wider spans, wider products. -/
theorem mul_mono {c p q p2 q2 : Rat} (h : p ≤ q) (h1 : p2 ≤ p) (h2 : q ≤ q2) : mulL c c p2 q2 ≤ mulL c c p q ∧ mulH c c p q ≤ mulH c c p2 q2 := by
  have hc : c ≤ c := Rat.le_refl
  have a := mul_in hc hc h1 (Rat.le_trans h h2)
  have b := mul_in hc hc (Rat.le_trans h1 h) h2
  exact ⟨le_mulL a.1 b.1 a.1 b.1, mulH_le a.2 b.2 a.2 b.2⟩
theorem rt_in {o p q r s x y : Rat} (x1 : p ≤ x) (x2 : x ≤ q) (y1 : r ≤ y) (y2 : y ≤ s) : (rtXL o p q r s ≤ rotX o x y ∧ rotX o x y ≤ rtXH o p q r s) ∧ (rtYL o p q r s ≤ rotY o x y ∧ rotY o x y ≤ rtYH o p q r s) := by
  have hc : ∀ c : Rat, c ≤ c := fun _ => Rat.le_refl
  have a := mul_in (hc (cosQ o)) (hc _) x1 x2
  have b := mul_in (hc (sinQ o)) (hc _) y1 y2
  have c := mul_in (hc (sinQ o)) (hc _) x1 x2
  have d := mul_in (hc (cosQ o)) (hc _) y1 y2
  unfold rtXL rtXH rtYL rtYH rotX rotY
  grind
theorem rt_mono {o p q r s p2 q2 r2 s2 : Rat} (hx : p ≤ q) (hy : r ≤ s) (h1 : p2 ≤ p) (h2 : q ≤ q2) (h3 : r2 ≤ r) (h4 : s ≤ s2) : (rtXL o p2 q2 r2 s2 ≤ rtXL o p q r s ∧ rtXH o p q r s ≤ rtXH o p2 q2 r2 s2) ∧ (rtYL o p2 q2 r2 s2 ≤ rtYL o p q r s ∧ rtYH o p q r s ≤ rtYH o p2 q2 r2 s2) := by
  have a := mul_mono (c := cosQ o) hx h1 h2
  have b := mul_mono (c := sinQ o) hy h3 h4
  have c := mul_mono (c := sinQ o) hx h1 h2
  have d := mul_mono (c := cosQ o) hy h3 h4
  unfold rtXL rtXH rtYL rtYH
  grind
theorem cos_neg (v : Rat) : cosQ (-v) = cosQ v := by unfold cosQ; rw [show -v * -v = v * v by grind]
theorem sin_neg (v : Rat) : sinQ (-v) = -sinQ v := by
  unfold sinQ
  rw [show -v * -v = v * v by grind, show -v + -v = -(v + v) by grind, Rat.div_def, Rat.div_def, Rat.neg_mul]
theorem cos_sin (v : Rat) : cosQ v * cosQ v + sinQ v * sinQ v = 1 := by
  have h1 : cosQ v * (1 + v * v) = 1 - v * v := Rat.div_mul_cancel (onesq_ne v)
  have h2 : sinQ v * (1 + v * v) = v + v := Rat.div_mul_cancel (onesq_ne v)
  have h3 : (1 + v * v) ≠ 0 := onesq_ne v
  have h4 : (cosQ v * cosQ v + sinQ v * sinQ v) * ((1 + v * v) * (1 + v * v)) = 1 * ((1 + v * v) * (1 + v * v)) := by
    have : (cosQ v * cosQ v + sinQ v * sinQ v) * ((1 + v * v) * (1 + v * v)) = (cosQ v * (1 + v * v)) * (cosQ v * (1 + v * v)) + (sinQ v * (1 + v * v)) * (sinQ v * (1 + v * v)) := by grind
    rw [this, h1, h2]
    grind
  have h5 : (1 + v * v) * (1 + v * v) ≠ 0 := fun e => by
    rcases Rat.mul_eq_zero.1 e with e | e <;> exact h3 e
  grind
/-- A point in the frame of a gripper, and back. -/
def gripX (g : Fr) (x y : Rat) : Rat := rotX (-g.t) (x - g.x) (y - g.y)
def gripY (g : Fr) (x y : Rat) : Rat := rotY (-g.t) (x - g.x) (y - g.y)
def putX (g : Fr) (x y : Rat) : Rat := rotX g.t x y + g.x
def putY (g : Fr) (x y : Rat) : Rat := rotY g.t x y + g.y
theorem put_grip (g : Fr) (x y : Rat) : putX g (gripX g x y) (gripY g x y) = x ∧ putY g (gripX g x y) (gripY g x y) = y := by
  have h := cos_sin g.t
  unfold putX putY gripX gripY rotX rotY
  rw [cos_neg, sin_neg]
  generalize cosQ g.t = c at h ⊢
  generalize sinQ g.t = s at h ⊢
  constructor <;> grind
theorem grip_put (g : Fr) (x y : Rat) : gripX g (putX g x y) (putY g x y) = x ∧ gripY g (putX g x y) (putY g x y) = y := by
  have h := cos_sin g.t
  unfold putX putY gripX gripY rotX rotY
  rw [cos_neg, sin_neg]
  generalize cosQ g.t = c at h ⊢
  generalize sinQ g.t = s at h ⊢
  constructor <;> grind
/-- Is a point within the spans of a pose? -/
def Ps.has (p : Ps) (x y : Rat) : Prop := (p.a1 ≤ x ∧ x ≤ p.b1) ∧ (p.a2 ≤ y ∧ y ≤ p.b2)
theorem grip_in {g : Fr} {p : Ps} {x y : Rat} (h : p.has x y) : (gripP g p).has (gripX g x y) (gripY g x y) :=
  rt_in (by have := h.1.1; grind) (by have := h.1.2; grind) (by have := h.2.1; grind) (by have := h.2.2; grind)
theorem put_in {g : Fr} {p : Ps} {x y : Rat} (h : p.has x y) : (putP g p).has (putX g x y) (putY g x y) := by
  have := rt_in (o := g.t) h.1.1 h.1.2 h.2.1 h.2.2
  unfold Ps.has putP putX putY
  grind
/-- A turn and the turn back. -/
theorem td_neg {a t : Rat} (h : tdQ a t ≠ 0) : tdQ (-a) (tvQ a t) * tdQ a t = 1 + a * a := by
  have e := tvQ_mul h
  have : tdQ (-a) (tvQ a t) * tdQ a t = tdQ a t + a * (tvQ a t * tdQ a t) := by
    generalize tvQ a t = u
    unfold tdQ
    rw [one_eq]
    grind
  rw [this, e]
  unfold tdQ
  rw [one_eq]
  grind
theorem td_neg_ne {a t : Rat} (h : tdQ a t ≠ 0) : tdQ (-a) (tvQ a t) ≠ 0 := fun e => by
  have h1 := td_neg h
  rw [e] at h1
  have := sq_nn a
  grind
theorem tv_neg {a t : Rat} (h : tdQ a t ≠ 0) : tvQ (-a) (tvQ a t) = t := by
  have h1 := td_neg_ne h
  have h2 := tvQ_mul h1
  have e := tvQ_mul h
  have h3 : (tvQ a t + -a) * tdQ a t = t * (1 + a * a) := by
    have : (tvQ a t + -a) * tdQ a t = tvQ a t * tdQ a t - a * tdQ a t := by grind
    rw [this, e]
    unfold tdQ
    rw [one_eq]
    grind
  have h4 : tvQ (-a) (tvQ a t) * (tdQ (-a) (tvQ a t) * tdQ a t) = t * (1 + a * a) := by
    rw [← h3, ← h2]
    grind
  rw [td_neg h] at h4
  have h5 : 1 + a * a ≠ 0 := by have := sq_nn a; grind
  grind
theorem pos_sgn {d e m : Rat} (hm : 0 < m) (h : e * d = m) : (0 < d → 0 < e) ∧ (d < 0 → e < 0) := by
  constructor
  · intro hd
    apply Rat.not_le.1
    intro he
    have := Rat.mul_nonneg (show 0 ≤ -e by grind) (Rat.le_of_lt hd)
    grind
  · intro hd
    apply Rat.not_le.1
    intro he
    have := Rat.mul_nonneg he (show 0 ≤ -d by grind)
    grind
theorem tWide_neg {a p q : Rat} (h : tWide a p q = false) : tWide (-a) (tvQ a p) (tvQ a q) = false := by
  have hb := tWide_no h
  have hm : 0 < 1 + a * a := by have := sq_nn a; grind
  have h1 := pos_sgn hm (td_neg (a := a) (t := p) (by grind))
  have h2 := pos_sgn hm (td_neg (a := a) (t := q) (by grind))
  refine tWide_yes ?_
  grind
theorem tv_ends {a p q : Rat} (h : tWide a p q = false) : tdQ a p ≠ 0 ∧ tdQ a q ≠ 0 := by
  have := tWide_no h
  grind
theorem back_rel (x y t fx fy : Rat) : rotX (-t) (((0 : Int) : Rat) - x) (((0 : Int) : Rat) - y) + rotX (-t) fx fy = gripX ⟨x, y, t⟩ fx fy ∧ rotY (-t) (((0 : Int) : Rat) - x) (((0 : Int) : Rat) - y) + rotY (-t) fx fy = gripY ⟨x, y, t⟩ fx fy := by
  have e : ((0 : Int) : Rat) = 0 := rfl
  rw [e]
  unfold gripX gripY rotX rotY
  show _ = (fx - x) * cosQ (-t) - (fy - y) * sinQ (-t) ∧ _ = (fx - x) * sinQ (-t) + (fy - y) * cosQ (-t)
  constructor <;> grind
theorem tv_comm (a t : Rat) : tvQ a t = (a + t) / (((1 : Int) : Rat) - a * t) := by
  unfold tvQ tnQ tdQ
  rw [Rat.add_comm]
theorem tv_comm2 (a t : Rat) : tvQ a t = (t + a) / (((1 : Int) : Rat) - t * a) := by
  unfold tvQ tnQ tdQ
  rw [Rat.mul_comm]
/-- Inclusion of bounds. -/
def Ps.sub (p q : Ps) : Prop := (q.a1 ≤ p.a1 ∧ p.b1 ≤ q.b1) ∧ (q.a2 ≤ p.a2 ∧ p.b2 ≤ q.b2) ∧ (q.a3 ≤ p.a3 ∧ p.b3 ≤ q.b3)
theorem Ps.sub_iff {p q : Ps} : inF p.a1 p.b1 p.a2 p.b2 p.a3 p.b3 q.a1 q.b1 q.a2 q.b2 q.a3 q.b3 = true ↔ p.sub q := decide_eq_true_iff
/-- A carry there and back leaves bounds that contain those before. -/
theorem carry_back {g h : Fr} {p : Ps} (l1 : p.a1 ≤ p.b1) (l2 : p.a2 ≤ p.b2) (G1 : tWide (-g.t) p.a3 p.b3 = false) (G2 : tWide h.t (tvQ (-g.t) p.a3) (tvQ (-g.t) p.b3) = false) :
    p.sub (putP g (gripP h (putP h (gripP g p)))) ∧ (putP g (gripP h (putP h (gripP g p)))).a3 = p.a3 ∧ (putP g (gripP h (putP h (gripP g p)))).b3 = p.b3 := by
  have pt : ∀ x y, p.has x y → (putP g (gripP h (putP h (gripP g p)))).has x y := fun x y hx => by
    have h1 := put_in (g := g) (grip_in (g := h) (put_in (g := h) (grip_in (g := g) hx)))
    rw [(grip_put h _ _).1, (grip_put h _ _).2, (put_grip g _ _).1, (put_grip g _ _).2] at h1
    exact h1
  have h1 := pt p.a1 p.a2 ⟨⟨Rat.le_refl, l1⟩, ⟨Rat.le_refl, l2⟩⟩
  have h2 := pt p.b1 p.b2 ⟨⟨l1, Rat.le_refl⟩, ⟨l2, Rat.le_refl⟩⟩
  have back : ∀ t, tdQ (-g.t) t ≠ 0 → tdQ h.t (tvQ (-g.t) t) ≠ 0 → tvQ g.t (tvQ (-h.t) (tvQ h.t (tvQ (-g.t) t))) = t := fun t n1 n2 => by
    rw [tv_neg n2]
    have := tv_neg n1
    rwa [Rat.neg_neg] at this
  have n1 := tv_ends G1
  have n2 := tv_ends G2
  have e1 : (putP g (gripP h (putP h (gripP g p)))).a3 = p.a3 := back _ n1.1 n2.1
  have e2 : (putP g (gripP h (putP h (gripP g p)))).b3 = p.b3 := back _ n1.2 n2.2
  refine ⟨⟨⟨h1.1.1, h2.1.2⟩, ⟨h1.2.1, h2.2.2⟩, ?_⟩, e1, e2⟩
  rw [e1, e2]
  exact ⟨Rat.le_refl, Rat.le_refl⟩
theorem carry_back_ok {g h : Fr} {p : Ps} (G1 : tWide (-g.t) p.a3 p.b3 = false) (G2 : tWide h.t (tvQ (-g.t) p.a3) (tvQ (-g.t) p.b3) = false) :
    tWide (-h.t) (tvQ h.t (tvQ (-g.t) p.a3)) (tvQ h.t (tvQ (-g.t) p.b3)) = false ∧ tWide g.t (tvQ (-h.t) (tvQ h.t (tvQ (-g.t) p.a3))) (tvQ (-h.t) (tvQ h.t (tvQ (-g.t) p.b3))) = false := by
  have n2 := tv_ends G2
  refine ⟨tWide_neg G2, ?_⟩
  rw [tv_neg n2.1, tv_neg n2.2]
  have := tWide_neg G1
  rwa [Rat.neg_neg] at this
/-- Wider bounds, wider bounds behind a put. -/
theorem put_mono {g : Fr} {p q : Ps} (l1 : p.a1 ≤ p.b1) (l2 : p.a2 ≤ p.b2) (h1 : q.a1 ≤ p.a1) (h2 : p.b1 ≤ q.b1) (h3 : q.a2 ≤ p.a2) (h4 : p.b2 ≤ q.b2) (e1 : p.a3 = q.a3) (e2 : p.b3 = q.b3) : (putP g p).sub (putP g q) := by
  have := rt_mono (o := g.t) l1 l2 h1 h2 h3 h4
  have e3 : (putP g p).a3 = (putP g q).a3 := by show tvQ _ _ = tvQ _ _; rw [e1]
  have e4 : (putP g p).b3 = (putP g q).b3 := by show tvQ _ _ = tvQ _ _; rw [e2]
  refine ⟨?_, ?_, by rw [e3, e4]; exact ⟨Rat.le_refl, Rat.le_refl⟩⟩
  · show rtXL _ _ _ _ _ + _ ≤ rtXL _ _ _ _ _ + _ ∧ rtXH _ _ _ _ _ + _ ≤ rtXH _ _ _ _ _ + _
    grind
  · show rtYL _ _ _ _ _ + _ ≤ rtYL _ _ _ _ _ + _ ∧ rtYH _ _ _ _ _ + _ ≤ rtYH _ _ _ _ _ + _
    grind
end Go.Proofs.YtolekonocbeekaaGreatDoor

namespace Go.Proofs.YtolekonocbeekaaGreatDoor
open Go.RowKit
set_option linter.unusedVariables false
set_option maxRecDepth 100000

theorem Hp.belx {w0 w : World} {l : Ents} (h : Hp w0 w l) (s : Ext w) : Below w0.heap.size w0 s.to := h.bel.trans (s.h.mono h.bel.size)
theorem belowQ_any (x n q : Int) (w : World) (hn : 0 < n) (h1 : -9223372036854775808 ≤ x) (h2 : x ≤ 9223372036854775807) (h3 : n ≤ 9223372036854775807) (hq : Hid (x % n = q)) :
    Calls Tryz.prog 7 #[.int .i64 x, .int .i64 n] w fun e w' => e = .returned (.int .i64 q) ∧ Below w.heap.size w w' := hq.out ▸ (below_any x n w hn h1 h2 h3).mono fun _ _ h => ⟨h.1, h.2 ▸ Below.refl _ _⟩
theorem ofQ_nn {n : Int} {d : Nat} (h : 0 ≤ n) (hd : 0 < d) : 0 ≤ ofQ n d := by
  rw [ofQ_div]
  have h1 : (0 : Rat) < ((d : Int) : Rat) := by exact_mod_cast hd
  have h2 : (n : Rat) / ((d : Int) : Rat) * ((d : Int) : Rat) = (n : Rat) := Rat.div_mul_cancel (by grind)
  refine pos_of_mul h1 ?_
  rw [h2]
  exact_mod_cast h
theorem mod_bd (x : Int) {n : Int} (h : 0 < n) : 0 ≤ x % n ∧ x % n < n := ⟨Int.emod_nonneg _ (by omega), Int.emod_lt_of_pos _ h⟩
theorem zero_sub_ (a : Rat) : a - ((0 : Int) : Rat) = a := by have e : ((0 : Int) : Rat) = 0 := rfl; grind
theorem zero_add_ (a : Rat) : a + ((0 : Int) : Rat) = a := by have e : ((0 : Int) : Rat) = 0 := rfl; grind
theorem btw_swap {x x2 e : Rat} (h : x - e ≤ x2 ∧ x2 ≤ x + e) : x2 - e ≤ x ∧ x ≤ x2 + e := by grind
theorem look_law {a b x x2 e : Rat} (h1 : a ≤ x ∧ x ≤ b) (h2 : x2 - e ≤ x ∧ x ≤ x2 + e) : (mx a (x2 - e) ≤ x ∧ x ≤ mn b (x2 + e)) ∧ (a ≤ mx a (x2 - e) ∧ mn b (x2 + e) ≤ b) ∧ mn b (x2 + e) - mx a (x2 - e) ≤ e + e := by
  refine ⟨⟨mx_le.2 ⟨h1.1, h2.1⟩, le_mn.2 ⟨h1.2, h2.2⟩⟩, ⟨(le_mx _ _).1, (mn_le _ _).1⟩, ?_⟩
  have := (le_mx a (x2 - e)).2
  have := (mn_le b (x2 + e)).2
  grind
end Go.Proofs.YtolekonocbeekaaGreatDoor

namespace Go.Proofs.YtolekonocbeekaaGreatDoor
open Go.RowKit
set_option linter.unusedVariables false
set_option maxRecDepth 100000

theorem kSlc : ∃ d, Tryz.prog.underlying 22 = some d ∧ d.isRow = false := ⟨_, Tryz.underlying22, rfl⟩
theorem Hp.nei {w0 w : World} {l : Ents} (h : Hp w0 w l) {i j : Nat} {b c : Nat} {T U : TypeId} {cs ds : List Value} (hi : l[i]? = some (b, T, cs)) (hj : l[j]? = some (c, U, ds)) (hij : i ≠ j) : b ≠ c := fun e => by
  have h1 : (l.map (·.1))[i]? = some b := by rw [List.getElem?_map, hi]; rfl
  have h2 : (l.map (·.1))[j]? = some b := by rw [List.getElem?_map, hj, e]; rfl
  have hl : i < (l.map (·.1)).length := (List.getElem?_eq_some_iff.1 h1).1
  exact hij ((List.getElem?_inj hl h.nd).1 (h1.trans h2.symm))
theorem slip_law {g h : Fr} {p : Ps} {fx fy ft dx dy s : Rat} (hx : p.a1 ≤ fx ∧ fx ≤ p.b1) (hy : p.a2 ≤ fy ∧ fy ≤ p.b2) (ht : p.a3 ≤ ft ∧ ft ≤ p.b3) (G0 : tWide (-g.t) p.a3 p.b3 = false) (G2 : tWide h.t (tvQ (-g.t) p.a3) (tvQ (-g.t) p.b3) = false) (h1 : -s ≤ dx ∧ dx ≤ s) (h2 : -s ≤ dy ∧ dy ≤ s) :
    (putP h (widP s ((0 : Int) : Rat) (gripP g p))).has (putX h (gripX g fx fy + dx) (gripY g fx fy + dy)) (putY h (gripX g fx fy + dx) (gripY g fx fy + dy)) ∧ tdQ (-g.t) ft ≠ 0 ∧ tdQ h.t (tvQ (-g.t) ft) ≠ 0 ∧ ((putP h (widP s ((0 : Int) : Rat) (gripP g p))).a3 ≤ tvQ h.t (tvQ (-g.t) ft) ∧ tvQ h.t (tvQ (-g.t) ft) ≤ (putP h (widP s ((0 : Int) : Rat) (gripP g p))).b3) := by
  have a := grip_in (g := g) (p := p) ⟨hx, hy⟩
  have b : (widP s ((0 : Int) : Rat) (gripP g p)).has (gripX g fx fy + dx) (gripY g fx fy + dy) := by
    obtain ⟨⟨a1, a2⟩, a3, a4⟩ := a
    refine ⟨⟨?_, ?_⟩, ?_, ?_⟩
    · show (gripP g p).a1 - s ≤ _; grind
    · show _ ≤ (gripP g p).b1 + s; grind
    · show (gripP g p).a2 - s ≤ _; grind
    · show _ ≤ (gripP g p).b2 + s; grind
  have c := tv_btw G0 ht.1 ht.2
  have d := tv_btw G2 c.2.1 c.2.2
  have e3 : (putP h (widP s ((0 : Int) : Rat) (gripP g p))).a3 = tvQ h.t (tvQ (-g.t) p.a3) := by show tvQ h.t (tvQ (-g.t) p.a3 - ((0 : Int) : Rat)) = _; rw [zero_sub_]
  have e4 : (putP h (widP s ((0 : Int) : Rat) (gripP g p))).b3 = tvQ h.t (tvQ (-g.t) p.b3) := by show tvQ h.t (tvQ (-g.t) p.b3 + ((0 : Int) : Rat)) = _; rw [zero_add_]
  exact ⟨put_in b, c.1, d.1, by rw [e3, e4]; exact d.2⟩
/-- A carry from the origin to the origin changes nothing. -/
theorem carry_zero {p : Ps} (l1 : p.a1 ≤ p.b1) (l2 : p.a2 ≤ p.b2) : putP ⟨0, 0, 0⟩ (gripP ⟨0, 0, 0⟩ p) = p := by
  have c0 : cosQ 0 = 1 := by decide +kernel
  have s0 : sinQ 0 = 0 := by decide +kernel
  have m1 : ∀ a b : Rat, a ≤ b → mulL 1 1 a b = a ∧ mulH 1 1 a b = b := fun a b h => by
    have h1 := mulL_le 1 1 a b
    have h2 := le_mulH 1 1 a b
    have h3 := le_mulL (p := 1) (q := 1) (r := a) (s := b) (m := a) (by grind) (by grind) (by grind) (by grind)
    have h4 := mulH_le (p := 1) (q := 1) (r := a) (s := b) (m := b) (by grind) (by grind) (by grind) (by grind)
    constructor <;> grind
  have m0 : ∀ a b : Rat, mulL 0 0 a b = 0 ∧ mulH 0 0 a b = 0 := fun a b => by
    have h1 := mulL_le 0 0 a b
    have h2 := le_mulH 0 0 a b
    have h3 := le_mulL (p := 0) (q := 0) (r := a) (s := b) (m := 0) (by grind) (by grind) (by grind) (by grind)
    have h4 := mulH_le (p := 0) (q := 0) (r := a) (s := b) (m := 0) (by grind) (by grind) (by grind) (by grind)
    constructor <;> grind
  have tv : ∀ t : Rat, tvQ 0 t = t := fun t => by
    have h : tdQ 0 t = 1 := by unfold tdQ; rw [one_eq]; grind
    have := tvQ_mul (a := 0) (t := t) (by rw [h]; decide)
    rw [h] at this
    grind
  have n0 : (-(0 : Rat)) = 0 := by decide
  have r : ∀ a b c d : Rat, a ≤ b → c ≤ d → rtXL 0 a b c d = a ∧ rtXH 0 a b c d = b ∧ rtYL 0 a b c d = c ∧ rtYH 0 a b c d = d := fun a b c d h1 h2 => by
    unfold rtXL rtXH rtYL rtYH
    rw [c0, s0, (m1 a b h1).1, (m1 a b h1).2, (m1 c d h2).1, (m1 c d h2).2, (m0 a b).1, (m0 a b).2, (m0 c d).1, (m0 c d).2]
    refine ⟨?_, ?_, ?_, ?_⟩ <;> grind
  obtain ⟨a1, b1, a2, b2, a3, b3⟩ := p
  have z : ∀ a : Rat, a - 0 = a := fun a => by grind
  have z2 : ∀ a : Rat, a + 0 = a := fun a => by grind
  unfold putP gripP
  simp only [n0, z, z2, tv]
  have q := r a1 b1 a2 b2 l1 l2
  rw [q.1, q.2.1, q.2.2.1, q.2.2.2]
  have q := r a1 b1 a2 b2 l1 l2
  rw [q.1, q.2.1, q.2.2.1, q.2.2.2]
theorem tWide_zero (p q : Rat) : tWide 0 p q = false := by
  have h : ∀ t : Rat, tdQ 0 t = 1 := fun t => by unfold tdQ; rw [one_eq]; grind
  exact tWide_yes (.inl (by rw [h, h]; decide))
theorem ofQ_abs8 {n : Int} (h1 : -8 ≤ n) (h2 : n ≤ 8) : -1 ≤ ofQ n 8 ∧ ofQ n 8 ≤ 1 := by
  rw [ofQ_div]
  have e4 : (((8 : Nat) : Int) : Rat) = 8 := rfl
  rw [e4]
  have a : ((-8 : Int) : Rat) ≤ (n : Rat) := by exact_mod_cast h1
  have b : (n : Rat) ≤ ((8 : Int) : Rat) := by exact_mod_cast h2
  rw [show ((-8 : Int) : Rat) = -8 from rfl] at a
  rw [show ((8 : Int) : Rat) = 8 from rfl] at b
  constructor <;> grind
theorem abs_mul {d s : Rat} (hd : -1 ≤ d ∧ d ≤ 1) (hs : 0 ≤ s) : -s ≤ d * s ∧ d * s ≤ s := by
  have a := Rat.mul_nonneg (show 0 ≤ d + 1 by grind) hs
  have b := Rat.mul_nonneg (show 0 ≤ 1 - d by grind) hs
  constructor <;> grind
/-- The sizes, round by round. -/
def szA : Nat → Nat
  | 0 => 14
  | j + 1 => 4 * szA j + 157
def szB : Nat → Nat
  | 0 => 14
  | j + 1 => 4 * szB j + 25
theorem szA_le {j : Nat} (h : j ≤ 2) : szA j ≤ 1009 := by rcases (show j = 0 ∨ j = 1 ∨ j = 2 by omega) with rfl | rfl | rfl <;> decide
theorem szB_le {j : Nat} (h : j ≤ 2) : szB j ≤ 349 := by rcases (show j = 0 ∨ j = 1 ∨ j = 2 by omega) with rfl | rfl | rfl <;> decide
structure TBr (A B : Nat) (p1 q1 p2 q2 p3 q3 fx fy ft : Rat) : Prop where
  pk : Pok A B ⟨p1, q1, p2, q2, p3, q3⟩
  hx : p1 ≤ fx ∧ fx ≤ q1
  hy : p2 ≤ fy ∧ fy ≤ q2
  ht : p3 ≤ ft ∧ ft ≤ q3
  zx : Sz A fx
  zy : Sz A fy
  zt : Sz B ft
end Go.Proofs.YtolekonocbeekaaGreatDoor
