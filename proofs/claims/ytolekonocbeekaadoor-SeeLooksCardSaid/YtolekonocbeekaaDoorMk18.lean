/- carry.Looks. Printed by gen/spech2.py. · carry.place, its closure. Printed by gen/spech2.py. · carry.place. Printed by gen/spech2.py. · carry.Need. Printed by gen/spech2.py. · What carries do to points, and what they do to bounds: no walk. Printed by gen/geol.py. · Cosines and sines of spans, and the box of a point: no walk. Printed by gen/geos.py. · What the laws of see and carry need besides: no walk. Printed by gen/lawr6b.py. · What CarryTrue needs besides: no walk. Printed by gen/lawr6b.py. · gantmake.at. Printed by gen/seep.py. · Lists of points, cell by cell: no walk. Printed by gen/seep.py. · gantmake.Rat. Printed by gen/seep.py. · gantmake.Vec. Printed by gen/seep.py. · gantmake.poly. Printed by gen/seep.py. · gantmake.Poly. Printed by gen/seep.py. · see.Shape. Printed by gen/seep.py. -/
import Derived.Test.YtolekonocbeekaaDoorMk17
import Derived.Test.YtolekonocbeekaaDoorMk16
import Derived.Test.YtolekonocbeekaaDoorMk5
namespace Go.Proofs.YtolekonocbeekaaDoor
open Go.RowKit
set_option linter.unusedVariables false
set_option maxRecDepth 100000

set_option maxHeartbeats 4000000 in
theorem Looks_any {j : Nat} (nm : ByteArray) (x y r : Option Rat) (b : Option Rat) (u : Rat) (w : World) (hk : j ≤ 5000) (Zb : Hid (SzO j b)) (Fu : Hid (mx (valO b) ((0 : Int) : Rat) = u)) (hT : Tb w) :
    Calls Tryd.prog 37 #[.agg #[.string nm, .bool (sgO x), .string (nuO x), .string (deO x), .bool (sgO y), .string (nuO y), .string (deO y), .bool false, .bool (sgO r), .string (nuO r), .string (deO r), .bool (sgO b), .string (nuO b), .string (deO b)]] w fun e w' => e = .returned (.agg #[.bool (sgO (some u)), .string (nuO (some u)), .string (deO (some u))]) ∧ Below w.heap.size w w' := by
  have H := Lib.hid (Hp.start hT)
  clear hT
  have Sb : Hid (SmO b) := SzO.sm Zb (by omega)
  obtain ⟨o, Eo⟩ : ∃ z : Rat, Hid (((0 : Int) : Rat) = z) := ⟨_, rfl⟩
  have Zo : Hid (Sz 3 o) := szEq Eo (Sz.int (0) (by decide))
  have So : Hid (SmO (some o)) := Sz.o Zo (by omega)
  have Eu : Hid (mx (valO b) o = u) := by have h0 := Fu.out; have h1 := Eo.out; subst_vars; rfl
  have Zu : Hid (Sz (j + 3) u) := szEq Eu (Sz.mx Zb Zo)
  have Su : Hid (SmO (some u)) := Sz.o Zu (by omega)
  go_enter Tryd.func37, Tryd.ntmps37
  go_wp2_with (first
      | ((with_reducible refine isBox ?_); refine bxA H ?_; clear H; intro _ _ H)
      | ((with_reducible refine isAlloc ?_); refine alA H ?_; clear H; intro _ _ H))
  refine wp_region_T 4 H (by kernel_rfl) (by kernel_rfl) ?_
  simp only [List.take_succ_cons, List.take_zero, List.drop_succ_cons, List.drop_zero]
  repeat (first
      | ((with_reducible refine kLoad ?_); refine kldA H ?_)
      | ((fail_if_success (with_reducible refine kCall ?_)); (with_reducible refine kCons ?_); refine wpK_step (fun K hK => ?_); go_simp; refine hK _ ?_; clear hK K))
  refine wpK_step (fun K hK => ?_)
  go_simp
  apply Exists.intro
  refine ⟨fun sx => ?_, hK _ ?_⟩
  · go_at_call 35
    exact ROf_any (0) o _ (by decide) (by decide) Eo (H.out.tbx sx)
  clear hK K
  refine wpK_step (fun K hK => ?_)
  go_simp
  apply Exists.intro
  refine ⟨fun sx => ?_, hK _ ?_⟩
  · go_at_call 57
    exact RMax_any b (some o) u _ Sb So Eu (H.out.tbx sx)
  clear hK K
  refine wpKeep_nil ?_
  clear H
  intro _ H
  go_wp2_with (first
      | ((with_reducible refine isStore ?_); refine stA H ?_; clear H; intro _ H))
  exact bodyPost_ret (results_H H Tryd.results37 (by (first | exact rRat | exact rSpan | exact rPose | exact rFrame | exact rVec | exact rTurn | exact rBox)) rfl (by (repeat (first | exact List.Mem.head _ | refine List.Mem.tail _ ?_ | assumption))) (by rfl)) rfl ⟨rfl, H.out.bel⟩
end Go.Proofs.YtolekonocbeekaaDoor

namespace Go.Proofs.YtolekonocbeekaaDoor
open Go.RowKit
set_option linter.unusedVariables false
set_option maxRecDepth 100000

set_option maxHeartbeats 4000000 in
theorem place1_any {j k : Nat} (a : Option Rat) (y : Rat) (c : Nat) (u : Rat) (v : Rat) (w : World) (hk : j + k ≤ 9000) (Za : Hid (SzO j a)) (Zy : Hid (Sz k y)) (X : Hid (Blk w c 24 [.bool (sgO (some y)), .string (nuO (some y)), .string (deO (some y))].toArray)) (Eu : Hid ((valO a) - y = u)) (Ev : Hid ((valO a) + y = v)) (hT : Tb w) :
    Calls Tryd.prog 109 #[.agg #[.bool (sgO a), .string (nuO a), .string (deO a)], .pointer (some ⟨c, 0, none⟩)] w fun e w' => e = .returned (.agg #[.bool (sgO (some u)), .string (nuO (some u)), .string (deO (some u)), .bool (sgO (some v)), .string (nuO (some v)), .string (deO (some v))]) ∧ Below w.heap.size w w' := by
  have H := Lib.hid (Hp.start hT)
  clear hT
  have Sa : Hid (SmO a) := SzO.sm Za (by omega)
  have Sy : Hid (SmO (some y)) := Sz.o Zy (by omega)
  have Zu : Hid (Sz (j + k + 1) u) := szEq Eu (Sz.sub Za Zy)
  have Su : Hid (SmO (some u)) := Sz.o Zu (by omega)
  have Zv : Hid (Sz (j + k + 1) v) := szEq Ev (Sz.add Za Zy)
  have Sv : Hid (SmO (some v)) := Sz.o Zv (by omega)
  go_enter Tryd.func109, Tryd.ntmps109
  go_wp2_with (first
      | ((with_reducible refine isBox ?_); refine bxA H ?_; clear H; intro _ _ H)
      | ((with_reducible refine isAlloc ?_); refine alA H ?_; clear H; intro _ _ H))
  refine wp_region_T 7 H (by kernel_rfl) (by kernel_rfl) ?_
  simp only [List.take_succ_cons, List.take_zero, List.drop_succ_cons, List.drop_zero]
  repeat (first
      | ((with_reducible refine kLoad ?_); refine kldX H X ?_)
      | ((with_reducible refine kLoad ?_); refine kldA H ?_))
  refine wpK_step (fun K hK => ?_)
  go_simp
  apply Exists.intro
  refine ⟨fun sx => ?_, hK _ ?_⟩
  · go_at_call 19
    exact RSub_any a (some y) u _ Sa Sy Eu (H.out.tbx sx)
  clear hK K
  repeat (first
      | ((with_reducible refine kLoad ?_); refine kldX H X ?_)
      | ((with_reducible refine kLoad ?_); refine kldA H ?_))
  refine wpK_step (fun K hK => ?_)
  go_simp
  apply Exists.intro
  refine ⟨fun sx => ?_, hK _ ?_⟩
  · go_at_call 20
    exact RAdd_any a (some y) v _ Sa Sy Ev (H.out.tbx sx)
  clear hK K
  repeat (first
      | ((fail_if_success (with_reducible refine kCall ?_)); (with_reducible refine kCons ?_); refine wpK_step (fun K hK => ?_); go_simp; refine hK _ ?_; clear hK K))
  refine wpKeep_nil ?_
  clear H
  intro _ H
  go_wp2_with (first
      | ((with_reducible refine isStore ?_); refine stA H ?_; clear H; intro _ H))
  exact bodyPost_ret (results_H H Tryd.results109 (by (first | exact rRat | exact rSpan | exact rPose | exact rFrame | exact rVec | exact rTurn | exact rBox)) rfl (by (repeat (first | exact List.Mem.head _ | refine List.Mem.tail _ ?_ | assumption))) (by rfl)) rfl ⟨rfl, H.out.bel⟩
end Go.Proofs.YtolekonocbeekaaDoor

namespace Go.Proofs.YtolekonocbeekaaDoor
open Go.RowKit
set_option linter.unusedVariables false
set_option maxRecDepth 100000

set_option maxHeartbeats 4000000 in
theorem place_any {j : Nat} (nm : ByteArray) (x : Option Rat) (y : Option Rat) (r : Option Rat) (b : Option Rat) (xl : Rat) (xh : Rat) (yl : Rat) (yh : Rat) (w : World) (hk : j ≤ 4000) (Zx : Hid (SzO j x)) (Zy : Hid (SzO j y)) (Zb : Hid (SzO j b)) (Fxl : Hid (valO x - mx (valO b) ((0 : Int) : Rat) = xl)) (Fxh : Hid (valO x + mx (valO b) ((0 : Int) : Rat) = xh)) (Fyl : Hid (valO y - mx (valO b) ((0 : Int) : Rat) = yl)) (Fyh : Hid (valO y + mx (valO b) ((0 : Int) : Rat) = yh)) (hT : Tb w) :
    Calls Tryd.prog 78 #[.agg #[.string nm, .bool (sgO x), .string (nuO x), .string (deO x), .bool (sgO y), .string (nuO y), .string (deO y), .bool false, .bool (sgO r), .string (nuO r), .string (deO r), .bool (sgO b), .string (nuO b), .string (deO b)]] w fun e w' => e = .returned (.tuple #[.agg #[.bool (sgO (some xl)), .string (nuO (some xl)), .string (deO (some xl)), .bool (sgO (some xh)), .string (nuO (some xh)), .string (deO (some xh))], .agg #[.bool (sgO (some yl)), .string (nuO (some yl)), .string (deO (some yl)), .bool (sgO (some yh)), .string (nuO (some yh)), .string (deO (some yh))]]) ∧ Below w.heap.size w w' := by
  have H := Lib.hid (Hp.start hT)
  clear hT
  have Sx : Hid (SmO x) := SzO.sm Zx (by omega)
  have Sy : Hid (SmO y) := SzO.sm Zy (by omega)
  have Sb : Hid (SmO b) := SzO.sm Zb (by omega)
  obtain ⟨o, Eo⟩ : ∃ z : Rat, Hid (((0 : Int) : Rat) = z) := ⟨_, rfl⟩
  have Zo : Hid (Sz 3 o) := szEq Eo (Sz.int (0) (by decide))
  have So : Hid (SmO (some o)) := Sz.o Zo (by omega)
  obtain ⟨s, Es⟩ : ∃ z : Rat, Hid (mx (valO b) ((0 : Int) : Rat) = z) := ⟨_, rfl⟩
  have Zs : Hid (Sz (j + 3) s) := szEq Es (szmx (Sz.mono Zb (show j ≤ j + 3 by omega)) (Sz.mono (Sz.int 0 (by decide)) (show 3 ≤ j + 3 by omega)))
  have Ss : Hid (SmO (some s)) := Sz.o Zs (by omega)
  have Es2 : Hid (mx (valO b) (valO (some o)) = s) := by have h := Es.out; have h2 := Eo.out; subst h2; exact h
  have Exl : Hid (valO x - s = xl) := by have h0 := Fxl.out; have h1 := Eo.out; have h2 := Es.out; subst_vars; rfl
  have Exh : Hid (valO x + s = xh) := by have h0 := Fxh.out; have h1 := Eo.out; have h2 := Es.out; subst_vars; rfl
  have Eyl : Hid (valO y - s = yl) := by have h0 := Fyl.out; have h1 := Eo.out; have h2 := Es.out; subst_vars; rfl
  have Eyh : Hid (valO y + s = yh) := by have h0 := Fyh.out; have h1 := Eo.out; have h2 := Es.out; subst_vars; rfl
  go_enter Tryd.func78, Tryd.ntmps78
  go_wp2_with (first
      | ((with_reducible refine isBox ?_); refine bxA H ?_; clear H; intro _ _ H)
      | ((with_reducible refine isAlloc ?_); refine alA H ?_; clear H; intro _ _ H))
  refine wp_region_F1 4 H (by kernel_rfl) (by kernel_rfl) rfl (by simp [Allocs, go_sem]; intro _ _; rfl) ?_
  simp only [List.take_succ_cons, List.take_zero, List.drop_succ_cons, List.drop_zero]
  repeat (first
      | ((with_reducible refine kLoad ?_); refine kldA H ?_)
      | ((fail_if_success (with_reducible refine kCall ?_)); (with_reducible refine kCons ?_); refine wpK_step (fun K hK => ?_); go_simp; refine hK _ ?_; clear hK K))
  refine wpK_step (fun K hK => ?_)
  go_simp
  apply Exists.intro
  refine ⟨fun sx => ?_, hK _ ?_⟩
  · go_at_call 35
    exact ROf_any (0) o _ (by decide) (by decide) Eo (H.out.tbx sx)
  clear hK K
  refine wpK_step (fun K hK => ?_)
  go_simp
  apply Exists.intro
  refine ⟨fun sx => ?_, hK _ ?_⟩
  · go_at_call 57
    exact RMax_any b (some o) s _ Sb So Es2 (H.out.tbx sx)
  clear hK K
  refine wpKeep_nil ?_
  clear H
  intro _ _ H
  (simp only [Act.put, List.setIfInBounds_toArray, List.set_cons_succ, List.set_cons_zero])
  go_wp2_with (first
      | ((with_reducible refine isStore ?_); refine stA H ?_; clear H; intro _ H))
  refine wp_region_T 12 H (by kernel_rfl) (by kernel_rfl) ?_
  simp only [List.take_succ_cons, List.take_zero, List.drop_succ_cons, List.drop_zero]
  repeat (first
      | ((with_reducible refine kLoad ?_); refine kldA H ?_)
      | ((fail_if_success (with_reducible refine kCall ?_)); (with_reducible refine kCons ?_); refine wpK_step (fun K hK => ?_); go_simp; refine hK _ ?_; clear hK K))
  refine wpK_step (fun K hK => ?_)
  go_simp
  apply Exists.intro
  refine ⟨fun sx => ?_, hK _ ?_⟩
  · go_at_call 109
    exact place1_any x s _ xl xh _ (by omega) Zx Zs (H.out.getx sx (by (repeat (first | exact List.Mem.head _ | refine List.Mem.tail _ ?_ | assumption)))) Exl Exh (H.out.tbx sx)
  clear hK K
  repeat (first
      | ((with_reducible refine kLoad ?_); refine kldA H ?_)
      | ((fail_if_success (with_reducible refine kCall ?_)); (with_reducible refine kCons ?_); refine wpK_step (fun K hK => ?_); go_simp; refine hK _ ?_; clear hK K))
  refine wpK_step (fun K hK => ?_)
  go_simp
  apply Exists.intro
  refine ⟨fun sx => ?_, hK _ ?_⟩
  · go_at_call 109
    exact place1_any y s _ yl yh _ (by omega) Zy Zs (H.out.getx sx (by (repeat (first | exact List.Mem.head _ | refine List.Mem.tail _ ?_ | assumption)))) Eyl Eyh (H.out.tbx sx)
  clear hK K
  refine wpKeep_nil ?_
  clear H
  intro _ H
  go_wp2_with (first
      | ((with_reducible refine isStore ?_); refine stA H ?_; clear H; intro _ H))
  exact bodyPost_ret (results_HH H Tryd.results78 (by (first | exact rRat | exact rSpan | exact rPose | exact rFrame | exact rVec | exact rTurn | exact rBox)) (by (first | exact rRat | exact rSpan | exact rPose | exact rFrame | exact rVec | exact rTurn | exact rBox)) rfl (by (repeat (first | exact List.Mem.head _ | refine List.Mem.tail _ ?_ | assumption))) rfl (by (repeat (first | exact List.Mem.head _ | refine List.Mem.tail _ ?_ | assumption))) (by rfl) (by rfl)) rfl ⟨rfl, H.out.bel⟩
end Go.Proofs.YtolekonocbeekaaDoor

namespace Go.Proofs.YtolekonocbeekaaDoor
open Go.RowKit
set_option linter.unusedVariables false
set_option maxRecDepth 100000

theorem around_le (x r : Rat) : x - mx r ((0 : Int) : Rat) ≤ x + mx r ((0 : Int) : Rat) := by
  have := (le_mx r ((0 : Int) : Rat)).2
  have e : ((0 : Int) : Rat) = 0 := rfl
  grind
set_option maxHeartbeats 4000000 in
theorem Need_far {k : Nat} (a1 b1 a2 b2 a3 b3 : Rat) (nm : ByteArray) (x : Option Rat) (y : Option Rat) (r : Option Rat) (b : Option Rat) (xl xh yl yh : Rat) (w : World) (hk : k ≤ 3900) (P : Hid (PoseF k a1 b1 a2 b2 a3 b3)) (Zx : Hid (SzO k x)) (Zy : Hid (SzO k y)) (Zb : Hid (SzO k b)) (Exl : Hid (valO x - mx (valO b) ((0 : Int) : Rat) = xl)) (Exh : Hid (valO x + mx (valO b) ((0 : Int) : Rat) = xh)) (Eyl : Hid (valO y - mx (valO b) ((0 : Int) : Rat) = yl)) (Eyh : Hid (valO y + mx (valO b) ((0 : Int) : Rat) = yh)) (M1 : Hid (decide (a1 ≤ xh ∧ xl ≤ b1) = false)) (hT : Tb w) :
    Calls Tryd.prog 38 #[.agg #[.bool (sgO (some a1)), .string (nuO (some a1)), .string (deO (some a1)), .bool (sgO (some b1)), .string (nuO (some b1)), .string (deO (some b1)), .bool (sgO (some a2)), .string (nuO (some a2)), .string (deO (some a2)), .bool (sgO (some b2)), .string (nuO (some b2)), .string (deO (some b2)), .bool (sgO (some a3)), .string (nuO (some a3)), .string (deO (some a3)), .bool (sgO (some b3)), .string (nuO (some b3)), .string (deO (some b3))], .agg #[.string nm, .bool (sgO x), .string (nuO x), .string (deO x), .bool (sgO y), .string (nuO y), .string (deO y), .bool false, .bool (sgO r), .string (nuO r), .string (deO r), .bool (sgO b), .string (nuO b), .string (deO b)]] w fun e w' => e = .returned (.int .i64 17) ∧ Below w.heap.size w w' := by
  have H := Lib.hid (Hp.start hT)
  clear hT
  have Sx : Hid (SmO x) := SzO.sm Zx (by omega)
  have Sy : Hid (SmO y) := SzO.sm Zy (by omega)
  have Sb : Hid (SmO b) := SzO.sm Zb (by omega)
  have Zb2 : Sz (k + 3) (mx (valO b) ((0 : Int) : Rat)) := szmx (Sz.mono Zb (by omega)) (Sz.mono (Sz.int 0 (by decide)) (by omega))
  have Zxl : Hid (Sz (k + k + 4) xl) := szEq Exl ((Sz.sub Zx Zb2).mono (by omega))
  have Zxh : Hid (Sz (k + k + 4) xh) := szEq Exh ((Sz.add Zx Zb2).mono (by omega))
  have Zyl : Hid (Sz (k + k + 4) yl) := szEq Eyl ((Sz.sub Zy Zb2).mono (by omega))
  have Zyh : Hid (Sz (k + k + 4) yh) := szEq Eyh ((Sz.add Zy Zb2).mono (by omega))
  clear Zb2
  have SX : Hid (Spn (k + k + 4) (some xl) (some xh) xl xh) := Spn.two Zxl Zxh (by rw [← Exl.out, ← Exh.out]; exact around_le _ _) (by omega)
  have SY : Hid (Spn (k + k + 4) (some yl) (some yh) yl yh) := Spn.two Zyl Zyh (by rw [← Eyl.out, ← Eyh.out]; exact around_le _ _) (by omega)
  have P1 : Hid (Spn (k + k + 4) (some a1) (some b1) a1 b1) := Spn.two (P.out.za1.mono (by omega)) (P.out.zb1.mono (by omega)) P.out.l1 (by omega)
  have P2 : Hid (Spn (k + k + 4) (some a2) (some b2) a2 b2) := Spn.two (P.out.za2.mono (by omega)) (P.out.zb2.mono (by omega)) P.out.l2 (by omega)
  go_enter Tryd.func38, Tryd.ntmps38
  go_wp2_with (first
      | ((with_reducible refine isLoad ?_); refine ldA H ?_)
      | ((with_reducible refine isBox ?_); refine bxA H ?_; clear H; intro _ _ H))
  refine (place_any nm x y r b xl xh yl yh _ (by omega) Zx Zy Zb Exl Exh Eyl Eyh H.out.tb).mono ?_
  rintro _ _ ⟨rfl, hb⟩
  replace H := Lib.hid (H.out.go hb)
  clear hb
  go_wp2_with (first
      | ((with_reducible refine isLoad ?_); refine ldA H ?_)
      | ((with_reducible refine isStore ?_); refine stA H ?_; clear H; intro _ H)
      | ((with_reducible refine isAlloc ?_); refine alA H ?_; clear H; intro _ _ H))
  refine (spanMeet_any (some a1) (some b1) a1 b1 (some xl) (some xh) xl xh false _ (by omega) P1 SX M1 H.out.tb).mono ?_
  rintro _ _ ⟨rfl, hb⟩
  replace H := Lib.hid (H.out.go hb)
  clear hb
  go_wp2_with (first
      | go_skip)
  go_ret
  exact ⟨rfl, H.out.bel⟩

set_option maxHeartbeats 4000000 in
theorem Need_ok {k : Nat} (a1 b1 a2 b2 a3 b3 : Rat) (nm : ByteArray) (x : Option Rat) (y : Option Rat) (r : Option Rat) (b : Option Rat) (xl xh yl yh : Rat) (w : World) (hk : k ≤ 3900) (P : Hid (PoseF k a1 b1 a2 b2 a3 b3)) (Zx : Hid (SzO k x)) (Zy : Hid (SzO k y)) (Zb : Hid (SzO k b)) (Exl : Hid (valO x - mx (valO b) ((0 : Int) : Rat) = xl)) (Exh : Hid (valO x + mx (valO b) ((0 : Int) : Rat) = xh)) (Eyl : Hid (valO y - mx (valO b) ((0 : Int) : Rat) = yl)) (Eyh : Hid (valO y + mx (valO b) ((0 : Int) : Rat) = yh)) (M1 : Hid (decide (a1 ≤ xh ∧ xl ≤ b1) = true)) (M2 : Hid (decide (a2 ≤ yh ∧ yl ≤ b2) = true)) (I : Hid (inF a1 b1 a2 b2 a3 b3 xl xh yl yh a3 b3 = true)) (hT : Tb w) :
    Calls Tryd.prog 38 #[.agg #[.bool (sgO (some a1)), .string (nuO (some a1)), .string (deO (some a1)), .bool (sgO (some b1)), .string (nuO (some b1)), .string (deO (some b1)), .bool (sgO (some a2)), .string (nuO (some a2)), .string (deO (some a2)), .bool (sgO (some b2)), .string (nuO (some b2)), .string (deO (some b2)), .bool (sgO (some a3)), .string (nuO (some a3)), .string (deO (some a3)), .bool (sgO (some b3)), .string (nuO (some b3)), .string (deO (some b3))], .agg #[.string nm, .bool (sgO x), .string (nuO x), .string (deO x), .bool (sgO y), .string (nuO y), .string (deO y), .bool false, .bool (sgO r), .string (nuO r), .string (deO r), .bool (sgO b), .string (nuO b), .string (deO b)]] w fun e w' => e = .returned (.int .i64 0) ∧ Below w.heap.size w w' := by
  have H := Lib.hid (Hp.start hT)
  clear hT
  have Sx : Hid (SmO x) := SzO.sm Zx (by omega)
  have Sy : Hid (SmO y) := SzO.sm Zy (by omega)
  have Sb : Hid (SmO b) := SzO.sm Zb (by omega)
  have Zb2 : Sz (k + 3) (mx (valO b) ((0 : Int) : Rat)) := szmx (Sz.mono Zb (by omega)) (Sz.mono (Sz.int 0 (by decide)) (by omega))
  have Zxl : Hid (Sz (k + k + 4) xl) := szEq Exl ((Sz.sub Zx Zb2).mono (by omega))
  have Zxh : Hid (Sz (k + k + 4) xh) := szEq Exh ((Sz.add Zx Zb2).mono (by omega))
  have Zyl : Hid (Sz (k + k + 4) yl) := szEq Eyl ((Sz.sub Zy Zb2).mono (by omega))
  have Zyh : Hid (Sz (k + k + 4) yh) := szEq Eyh ((Sz.add Zy Zb2).mono (by omega))
  clear Zb2
  have SX : Hid (Spn (k + k + 4) (some xl) (some xh) xl xh) := Spn.two Zxl Zxh (by rw [← Exl.out, ← Exh.out]; exact around_le _ _) (by omega)
  have SY : Hid (Spn (k + k + 4) (some yl) (some yh) yl yh) := Spn.two Zyl Zyh (by rw [← Eyl.out, ← Eyh.out]; exact around_le _ _) (by omega)
  have P1 : Hid (Spn (k + k + 4) (some a1) (some b1) a1 b1) := Spn.two (P.out.za1.mono (by omega)) (P.out.zb1.mono (by omega)) P.out.l1 (by omega)
  have P2 : Hid (Spn (k + k + 4) (some a2) (some b2) a2 b2) := Spn.two (P.out.za2.mono (by omega)) (P.out.zb2.mono (by omega)) P.out.l2 (by omega)
  have Q : Hid (PoseF (k + k + 4) xl xh yl yh a3 b3) := ⟨SX.out.le, SY.out.le, P.out.l3, Zxl, Zxh, Zyl, Zyh, P.out.za3.mono (by omega), P.out.zb3.mono (by omega)⟩
  have P3 : Hid (PoseF (k + k + 4) a1 b1 a2 b2 a3 b3) := P.out.mono (by omega)
  go_enter Tryd.func38, Tryd.ntmps38
  go_wp2_with (first
      | ((with_reducible refine isLoad ?_); refine ldA H ?_)
      | ((with_reducible refine isBox ?_); refine bxA H ?_; clear H; intro _ _ H))
  refine (place_any nm x y r b xl xh yl yh _ (by omega) Zx Zy Zb Exl Exh Eyl Eyh H.out.tb).mono ?_
  rintro _ _ ⟨rfl, hb⟩
  replace H := Lib.hid (H.out.go hb)
  clear hb
  go_wp2_with (first
      | ((with_reducible refine isLoad ?_); refine ldA H ?_)
      | ((with_reducible refine isStore ?_); refine stA H ?_; clear H; intro _ H)
      | ((with_reducible refine isAlloc ?_); refine alA H ?_; clear H; intro _ _ H))
  refine (spanMeet_any (some a1) (some b1) a1 b1 (some xl) (some xh) xl xh true _ (by omega) P1 SX M1 H.out.tb).mono ?_
  rintro _ _ ⟨rfl, hb⟩
  replace H := Lib.hid (H.out.go hb)
  clear hb
  go_wp2_with (first
      | ((with_reducible refine isLoad ?_); refine ldA H ?_))
  refine (spanMeet_any (some a2) (some b2) a2 b2 (some yl) (some yh) yl yh true _ (by omega) P2 SY M2 H.out.tb).mono ?_
  rintro _ _ ⟨rfl, hb⟩
  replace H := Lib.hid (H.out.go hb)
  clear hb
  go_wp2_with (first
      | ((with_reducible refine isLoad ?_); refine ldA H ?_)
      | ((with_reducible refine isStore ?_); refine stA H ?_; clear H; intro _ H)
      | ((with_reducible refine isAlloc ?_); refine alA H ?_; clear H; intro _ _ H))
  refine (InF_any a1 b1 a2 b2 a3 b3 xl xh yl yh a3 b3 true _ (by omega) P3.out Q.out I H.out.tb).mono ?_
  rintro _ _ ⟨rfl, hb⟩
  replace H := Lib.hid (H.out.go hb)
  clear hb
  go_wp2_with (first
      | go_skip)
  go_ret
  exact ⟨rfl, H.out.bel⟩

set_option maxHeartbeats 4000000 in
theorem Need_wide {k : Nat} (a1 b1 a2 b2 a3 b3 : Rat) (nm : ByteArray) (x : Option Rat) (y : Option Rat) (r : Option Rat) (b : Option Rat) (xl xh yl yh : Rat) (w : World) (hk : k ≤ 3900) (P : Hid (PoseF k a1 b1 a2 b2 a3 b3)) (Zx : Hid (SzO k x)) (Zy : Hid (SzO k y)) (Zb : Hid (SzO k b)) (Exl : Hid (valO x - mx (valO b) ((0 : Int) : Rat) = xl)) (Exh : Hid (valO x + mx (valO b) ((0 : Int) : Rat) = xh)) (Eyl : Hid (valO y - mx (valO b) ((0 : Int) : Rat) = yl)) (Eyh : Hid (valO y + mx (valO b) ((0 : Int) : Rat) = yh)) (M1 : Hid (decide (a1 ≤ xh ∧ xl ≤ b1) = true)) (M2 : Hid (decide (a2 ≤ yh ∧ yl ≤ b2) = true)) (I : Hid (inF a1 b1 a2 b2 a3 b3 xl xh yl yh a3 b3 = false)) (hT : Tb w) :
    Calls Tryd.prog 38 #[.agg #[.bool (sgO (some a1)), .string (nuO (some a1)), .string (deO (some a1)), .bool (sgO (some b1)), .string (nuO (some b1)), .string (deO (some b1)), .bool (sgO (some a2)), .string (nuO (some a2)), .string (deO (some a2)), .bool (sgO (some b2)), .string (nuO (some b2)), .string (deO (some b2)), .bool (sgO (some a3)), .string (nuO (some a3)), .string (deO (some a3)), .bool (sgO (some b3)), .string (nuO (some b3)), .string (deO (some b3))], .agg #[.string nm, .bool (sgO x), .string (nuO x), .string (deO x), .bool (sgO y), .string (nuO y), .string (deO y), .bool false, .bool (sgO r), .string (nuO r), .string (deO r), .bool (sgO b), .string (nuO b), .string (deO b)]] w fun e w' => e = .returned (.int .i64 18) ∧ Below w.heap.size w w' := by
  have H := Lib.hid (Hp.start hT)
  clear hT
  have Sx : Hid (SmO x) := SzO.sm Zx (by omega)
  have Sy : Hid (SmO y) := SzO.sm Zy (by omega)
  have Sb : Hid (SmO b) := SzO.sm Zb (by omega)
  have Zb2 : Sz (k + 3) (mx (valO b) ((0 : Int) : Rat)) := szmx (Sz.mono Zb (by omega)) (Sz.mono (Sz.int 0 (by decide)) (by omega))
  have Zxl : Hid (Sz (k + k + 4) xl) := szEq Exl ((Sz.sub Zx Zb2).mono (by omega))
  have Zxh : Hid (Sz (k + k + 4) xh) := szEq Exh ((Sz.add Zx Zb2).mono (by omega))
  have Zyl : Hid (Sz (k + k + 4) yl) := szEq Eyl ((Sz.sub Zy Zb2).mono (by omega))
  have Zyh : Hid (Sz (k + k + 4) yh) := szEq Eyh ((Sz.add Zy Zb2).mono (by omega))
  clear Zb2
  have SX : Hid (Spn (k + k + 4) (some xl) (some xh) xl xh) := Spn.two Zxl Zxh (by rw [← Exl.out, ← Exh.out]; exact around_le _ _) (by omega)
  have SY : Hid (Spn (k + k + 4) (some yl) (some yh) yl yh) := Spn.two Zyl Zyh (by rw [← Eyl.out, ← Eyh.out]; exact around_le _ _) (by omega)
  have P1 : Hid (Spn (k + k + 4) (some a1) (some b1) a1 b1) := Spn.two (P.out.za1.mono (by omega)) (P.out.zb1.mono (by omega)) P.out.l1 (by omega)
  have P2 : Hid (Spn (k + k + 4) (some a2) (some b2) a2 b2) := Spn.two (P.out.za2.mono (by omega)) (P.out.zb2.mono (by omega)) P.out.l2 (by omega)
  have Q : Hid (PoseF (k + k + 4) xl xh yl yh a3 b3) := ⟨SX.out.le, SY.out.le, P.out.l3, Zxl, Zxh, Zyl, Zyh, P.out.za3.mono (by omega), P.out.zb3.mono (by omega)⟩
  have P3 : Hid (PoseF (k + k + 4) a1 b1 a2 b2 a3 b3) := P.out.mono (by omega)
  go_enter Tryd.func38, Tryd.ntmps38
  go_wp2_with (first
      | ((with_reducible refine isLoad ?_); refine ldA H ?_)
      | ((with_reducible refine isBox ?_); refine bxA H ?_; clear H; intro _ _ H))
  refine (place_any nm x y r b xl xh yl yh _ (by omega) Zx Zy Zb Exl Exh Eyl Eyh H.out.tb).mono ?_
  rintro _ _ ⟨rfl, hb⟩
  replace H := Lib.hid (H.out.go hb)
  clear hb
  go_wp2_with (first
      | ((with_reducible refine isLoad ?_); refine ldA H ?_)
      | ((with_reducible refine isStore ?_); refine stA H ?_; clear H; intro _ H)
      | ((with_reducible refine isAlloc ?_); refine alA H ?_; clear H; intro _ _ H))
  refine (spanMeet_any (some a1) (some b1) a1 b1 (some xl) (some xh) xl xh true _ (by omega) P1 SX M1 H.out.tb).mono ?_
  rintro _ _ ⟨rfl, hb⟩
  replace H := Lib.hid (H.out.go hb)
  clear hb
  go_wp2_with (first
      | ((with_reducible refine isLoad ?_); refine ldA H ?_))
  refine (spanMeet_any (some a2) (some b2) a2 b2 (some yl) (some yh) yl yh true _ (by omega) P2 SY M2 H.out.tb).mono ?_
  rintro _ _ ⟨rfl, hb⟩
  replace H := Lib.hid (H.out.go hb)
  clear hb
  go_wp2_with (first
      | ((with_reducible refine isLoad ?_); refine ldA H ?_)
      | ((with_reducible refine isStore ?_); refine stA H ?_; clear H; intro _ H)
      | ((with_reducible refine isAlloc ?_); refine alA H ?_; clear H; intro _ _ H))
  refine (InF_any a1 b1 a2 b2 a3 b3 xl xh yl yh a3 b3 false _ (by omega) P3.out Q.out I H.out.tb).mono ?_
  rintro _ _ ⟨rfl, hb⟩
  replace H := Lib.hid (H.out.go hb)
  clear hb
  go_wp2_with (first
      | go_skip)
  go_ret
  exact ⟨rfl, H.out.bel⟩
end Go.Proofs.YtolekonocbeekaaDoor

namespace Go.Proofs.YtolekonocbeekaaDoor
open Go.RowKit
set_option linter.unusedVariables false
set_option maxRecDepth 100000

theorem btw_mul {c p q x : Rat} (h1 : p ≤ x) (h2 : x ≤ q) {m : Rat} (hp : m ≤ c * p) (hq : m ≤ c * q) : m ≤ c * x := by
  rcases (Rat.le_total : (0 : Rat) ≤ c ∨ c ≤ 0) with h | h
  · have := Rat.mul_nonneg h (show 0 ≤ x - p by grind)
    grind
  · have := Rat.mul_nonneg (show 0 ≤ -c by grind) (show 0 ≤ q - x by grind)
    grind
theorem btw_mulH {c p q x : Rat} (h1 : p ≤ x) (h2 : x ≤ q) {m : Rat} (hp : c * p ≤ m) (hq : c * q ≤ m) : c * x ≤ m := by
  have := btw_mul (c := -c) h1 h2 (m := -m) (by grind) (by grind)
  grind
/-- A product of two values of spans is within the product of the spans. -/
theorem mul_in {p q r s c x : Rat} (c1 : p ≤ c) (c2 : c ≤ q) (x1 : r ≤ x) (x2 : x ≤ s) : mulL p q r s ≤ c * x ∧ c * x ≤ mulH p q r s := by
  obtain ⟨l1, l2, l3, l4⟩ := mulL_le p q r s
  obtain ⟨h1, h2, h3, h4⟩ := le_mulH p q r s
  constructor
  · refine btw_mul x1 x2 ?_ ?_
    · rw [Rat.mul_comm]
      exact btw_mul c1 c2 (by rw [Rat.mul_comm]; exact l1) (by rw [Rat.mul_comm]; exact l3)
    · rw [Rat.mul_comm]
      exact btw_mul c1 c2 (by rw [Rat.mul_comm]; exact l2) (by rw [Rat.mul_comm]; exact l4)
  · refine btw_mulH x1 x2 ?_ ?_
    · rw [Rat.mul_comm]
      exact btw_mulH c1 c2 (by rw [Rat.mul_comm]; exact h1) (by rw [Rat.mul_comm]; exact h3)
    · rw [Rat.mul_comm]
      exact btw_mulH c1 c2 (by rw [Rat.mul_comm]; exact h2) (by rw [Rat.mul_comm]; exact h4)
theorem le_mulL {p q r s m : Rat} (h1 : m ≤ p * r) (h2 : m ≤ p * s) (h3 : m ≤ q * r) (h4 : m ≤ q * s) : m ≤ mulL p q r s := by
  show m ≤ mn (mn (mn (p * r) (p * s)) (q * r)) (q * s)
  rcases mn_eq (mn (mn (p * r) (p * s)) (q * r)) (q * s) with e | e <;> rw [e]
  · rcases mn_eq (mn (p * r) (p * s)) (q * r) with e | e <;> rw [e]
    · rcases mn_eq (p * r) (p * s) with e | e <;> rw [e]
      · exact h1
      · exact h2
    · exact h3
  · exact h4
theorem mulH_le {p q r s m : Rat} (h1 : p * r ≤ m) (h2 : p * s ≤ m) (h3 : q * r ≤ m) (h4 : q * s ≤ m) : mulH p q r s ≤ m := by
  show mx (mx (mx (p * r) (p * s)) (q * r)) (q * s) ≤ m
  rcases mx_eq (mx (mx (p * r) (p * s)) (q * r)) (q * s) with e | e <;> rw [e]
  · rcases mx_eq (mx (p * r) (p * s)) (q * r) with e | e <;> rw [e]
    · rcases mx_eq (p * r) (p * s) with e | e <;> rw [e]
      · exact h1
      · exact h2
    · exact h3
  · exact h4
/-- Wider spans, wider products. -/
theorem mul_mono {c p q p2 q2 : Rat} (h : p ≤ q) (h1 : p2 ≤ p) (h2 : q ≤ q2) : mulL c c p2 q2 ≤ mulL c c p q ∧ mulH c c p q ≤ mulH c c p2 q2 := by
  have hc : c ≤ c := Rat.le_refl
  have a := mul_in hc hc h1 (Rat.le_trans h h2)
  have b := mul_in hc hc (Rat.le_trans h1 h) h2
  exact ⟨le_mulL a.1 b.1 a.1 b.1, mulH_le a.2 b.2 a.2 b.2⟩
theorem rt_in {o p q r s x y : Rat} (x1 : p ≤ x) (x2 : x ≤ q) (y1 : r ≤ y) (y2 : y ≤ s) : (rtXL o p q r s ≤ rotX o x y ∧ rotX o x y ≤ rtXH o p q r s) ∧ (rtYL o p q r s ≤ rotY o x y ∧ rotY o x y ≤ rtYH o p q r s) := by
  have hc : ∀ c : Rat, c ≤ c := fun _ => Rat.le_refl
  have a := mul_in (hc (cosQ o)) (hc _) x1 x2
  have b := mul_in (hc (sinQ o)) (hc _) y1 y2
  have c := mul_in (hc (sinQ o)) (hc _) x1 x2
  have d := mul_in (hc (cosQ o)) (hc _) y1 y2
  unfold rtXL rtXH rtYL rtYH rotX rotY
  grind
theorem rt_mono {o p q r s p2 q2 r2 s2 : Rat} (hx : p ≤ q) (hy : r ≤ s) (h1 : p2 ≤ p) (h2 : q ≤ q2) (h3 : r2 ≤ r) (h4 : s ≤ s2) : (rtXL o p2 q2 r2 s2 ≤ rtXL o p q r s ∧ rtXH o p q r s ≤ rtXH o p2 q2 r2 s2) ∧ (rtYL o p2 q2 r2 s2 ≤ rtYL o p q r s ∧ rtYH o p q r s ≤ rtYH o p2 q2 r2 s2) := by
  have a := mul_mono (c := cosQ o) hx h1 h2
  have b := mul_mono (c := sinQ o) hy h3 h4
  have c := mul_mono (c := sinQ o) hx h1 h2
  have d := mul_mono (c := cosQ o) hy h3 h4
  unfold rtXL rtXH rtYL rtYH
  grind
theorem cos_neg (v : Rat) : cosQ (-v) = cosQ v := by unfold cosQ; rw [show -v * -v = v * v by grind]
theorem sin_neg (v : Rat) : sinQ (-v) = -sinQ v := by
  unfold sinQ
  rw [show -v * -v = v * v by grind, show -v + -v = -(v + v) by grind, Rat.div_def, Rat.div_def, Rat.neg_mul]
theorem cos_sin (v : Rat) : cosQ v * cosQ v + sinQ v * sinQ v = 1 := by
  have h1 : cosQ v * (1 + v * v) = 1 - v * v := Rat.div_mul_cancel (onesq_ne v)
  have h2 : sinQ v * (1 + v * v) = v + v := Rat.div_mul_cancel (onesq_ne v)
  have h3 : (1 + v * v) ≠ 0 := onesq_ne v
  have h4 : (cosQ v * cosQ v + sinQ v * sinQ v) * ((1 + v * v) * (1 + v * v)) = 1 * ((1 + v * v) * (1 + v * v)) := by
    have : (cosQ v * cosQ v + sinQ v * sinQ v) * ((1 + v * v) * (1 + v * v)) = (cosQ v * (1 + v * v)) * (cosQ v * (1 + v * v)) + (sinQ v * (1 + v * v)) * (sinQ v * (1 + v * v)) := by grind
    rw [this, h1, h2]
    grind
  have h5 : (1 + v * v) * (1 + v * v) ≠ 0 := fun e => by
    rcases Rat.mul_eq_zero.1 e with e | e <;> exact h3 e
  grind
/-- A point in the frame of a gripper, and back. -/
def gripX (g : Fr) (x y : Rat) : Rat := rotX (-g.t) (x - g.x) (y - g.y)
def gripY (g : Fr) (x y : Rat) : Rat := rotY (-g.t) (x - g.x) (y - g.y)
def putX (g : Fr) (x y : Rat) : Rat := rotX g.t x y + g.x
def putY (g : Fr) (x y : Rat) : Rat := rotY g.t x y + g.y
theorem put_grip (g : Fr) (x y : Rat) : putX g (gripX g x y) (gripY g x y) = x ∧ putY g (gripX g x y) (gripY g x y) = y := by
  have h := cos_sin g.t
  unfold putX putY gripX gripY rotX rotY
  rw [cos_neg, sin_neg]
  generalize cosQ g.t = c at h ⊢
  generalize sinQ g.t = s at h ⊢
  constructor <;> grind
theorem grip_put (g : Fr) (x y : Rat) : gripX g (putX g x y) (putY g x y) = x ∧ gripY g (putX g x y) (putY g x y) = y := by
  have h := cos_sin g.t
  unfold putX putY gripX gripY rotX rotY
  rw [cos_neg, sin_neg]
  generalize cosQ g.t = c at h ⊢
  generalize sinQ g.t = s at h ⊢
  constructor <;> grind
/-- Is a point within the spans of a pose? -/
def Ps.has (p : Ps) (x y : Rat) : Prop := (p.a1 ≤ x ∧ x ≤ p.b1) ∧ (p.a2 ≤ y ∧ y ≤ p.b2)
theorem grip_in {g : Fr} {p : Ps} {x y : Rat} (h : p.has x y) : (gripP g p).has (gripX g x y) (gripY g x y) :=
  rt_in (by have := h.1.1; grind) (by have := h.1.2; grind) (by have := h.2.1; grind) (by have := h.2.2; grind)
theorem put_in {g : Fr} {p : Ps} {x y : Rat} (h : p.has x y) : (putP g p).has (putX g x y) (putY g x y) := by
  have := rt_in (o := g.t) h.1.1 h.1.2 h.2.1 h.2.2
  unfold Ps.has putP putX putY
  grind
/-- A turn and the turn back. -/
theorem td_neg {a t : Rat} (h : tdQ a t ≠ 0) : tdQ (-a) (tvQ a t) * tdQ a t = 1 + a * a := by
  have e := tvQ_mul h
  have : tdQ (-a) (tvQ a t) * tdQ a t = tdQ a t + a * (tvQ a t * tdQ a t) := by
    generalize tvQ a t = u
    unfold tdQ
    rw [one_eq]
    grind
  rw [this, e]
  unfold tdQ
  rw [one_eq]
  grind
theorem td_neg_ne {a t : Rat} (h : tdQ a t ≠ 0) : tdQ (-a) (tvQ a t) ≠ 0 := fun e => by
  have h1 := td_neg h
  rw [e] at h1
  have := sq_nn a
  grind
theorem tv_neg {a t : Rat} (h : tdQ a t ≠ 0) : tvQ (-a) (tvQ a t) = t := by
  have h1 := td_neg_ne h
  have h2 := tvQ_mul h1
  have e := tvQ_mul h
  have h3 : (tvQ a t + -a) * tdQ a t = t * (1 + a * a) := by
    have : (tvQ a t + -a) * tdQ a t = tvQ a t * tdQ a t - a * tdQ a t := by grind
    rw [this, e]
    unfold tdQ
    rw [one_eq]
    grind
  have h4 : tvQ (-a) (tvQ a t) * (tdQ (-a) (tvQ a t) * tdQ a t) = t * (1 + a * a) := by
    rw [← h3, ← h2]
    grind
  rw [td_neg h] at h4
  have h5 : 1 + a * a ≠ 0 := by have := sq_nn a; grind
  grind
theorem pos_sgn {d e m : Rat} (hm : 0 < m) (h : e * d = m) : (0 < d → 0 < e) ∧ (d < 0 → e < 0) := by
  constructor
  · intro hd
    apply Rat.not_le.1
    intro he
    have := Rat.mul_nonneg (show 0 ≤ -e by grind) (Rat.le_of_lt hd)
    grind
  · intro hd
    apply Rat.not_le.1
    intro he
    have := Rat.mul_nonneg he (show 0 ≤ -d by grind)
    grind
theorem tWide_neg {a p q : Rat} (h : tWide a p q = false) : tWide (-a) (tvQ a p) (tvQ a q) = false := by
  have hb := tWide_no h
  have hm : 0 < 1 + a * a := by have := sq_nn a; grind
  have h1 := pos_sgn hm (td_neg (a := a) (t := p) (by grind))
  have h2 := pos_sgn hm (td_neg (a := a) (t := q) (by grind))
  refine tWide_yes ?_
  grind
theorem tv_ends {a p q : Rat} (h : tWide a p q = false) : tdQ a p ≠ 0 ∧ tdQ a q ≠ 0 := by
  have := tWide_no h
  grind
/-- Inclusion of bounds. -/
def Ps.sub (p q : Ps) : Prop := (q.a1 ≤ p.a1 ∧ p.b1 ≤ q.b1) ∧ (q.a2 ≤ p.a2 ∧ p.b2 ≤ q.b2) ∧ (q.a3 ≤ p.a3 ∧ p.b3 ≤ q.b3)
theorem Ps.sub_iff {p q : Ps} : inF p.a1 p.b1 p.a2 p.b2 p.a3 p.b3 q.a1 q.b1 q.a2 q.b2 q.a3 q.b3 = true ↔ p.sub q := decide_eq_true_iff
/-- A carry there and back leaves bounds that contain those before. -/
theorem carry_back {g h : Fr} {p : Ps} (l1 : p.a1 ≤ p.b1) (l2 : p.a2 ≤ p.b2) (G1 : tWide (-g.t) p.a3 p.b3 = false) (G2 : tWide h.t (tvQ (-g.t) p.a3) (tvQ (-g.t) p.b3) = false) :
    p.sub (putP g (gripP h (putP h (gripP g p)))) ∧ (putP g (gripP h (putP h (gripP g p)))).a3 = p.a3 ∧ (putP g (gripP h (putP h (gripP g p)))).b3 = p.b3 := by
  have pt : ∀ x y, p.has x y → (putP g (gripP h (putP h (gripP g p)))).has x y := fun x y hx => by
    have h1 := put_in (g := g) (grip_in (g := h) (put_in (g := h) (grip_in (g := g) hx)))
    rw [(grip_put h _ _).1, (grip_put h _ _).2, (put_grip g _ _).1, (put_grip g _ _).2] at h1
    exact h1
  have h1 := pt p.a1 p.a2 ⟨⟨Rat.le_refl, l1⟩, ⟨Rat.le_refl, l2⟩⟩
  have h2 := pt p.b1 p.b2 ⟨⟨l1, Rat.le_refl⟩, ⟨l2, Rat.le_refl⟩⟩
  have back : ∀ t, tdQ (-g.t) t ≠ 0 → tdQ h.t (tvQ (-g.t) t) ≠ 0 → tvQ g.t (tvQ (-h.t) (tvQ h.t (tvQ (-g.t) t))) = t := fun t n1 n2 => by
    rw [tv_neg n2]
    have := tv_neg n1
    rwa [Rat.neg_neg] at this
  have n1 := tv_ends G1
  have n2 := tv_ends G2
  have e1 : (putP g (gripP h (putP h (gripP g p)))).a3 = p.a3 := back _ n1.1 n2.1
  have e2 : (putP g (gripP h (putP h (gripP g p)))).b3 = p.b3 := back _ n1.2 n2.2
  refine ⟨⟨⟨h1.1.1, h2.1.2⟩, ⟨h1.2.1, h2.2.2⟩, ?_⟩, e1, e2⟩
  rw [e1, e2]
  exact ⟨Rat.le_refl, Rat.le_refl⟩
theorem carry_back_ok {g h : Fr} {p : Ps} (G1 : tWide (-g.t) p.a3 p.b3 = false) (G2 : tWide h.t (tvQ (-g.t) p.a3) (tvQ (-g.t) p.b3) = false) :
    tWide (-h.t) (tvQ h.t (tvQ (-g.t) p.a3)) (tvQ h.t (tvQ (-g.t) p.b3)) = false ∧ tWide g.t (tvQ (-h.t) (tvQ h.t (tvQ (-g.t) p.a3))) (tvQ (-h.t) (tvQ h.t (tvQ (-g.t) p.b3))) = false := by
  have n2 := tv_ends G2
  refine ⟨tWide_neg G2, ?_⟩
  rw [tv_neg n2.1, tv_neg n2.2]
  have := tWide_neg G1
  rwa [Rat.neg_neg] at this
/-- Wider bounds, wider bounds behind a put. -/
theorem put_mono {g : Fr} {p q : Ps} (l1 : p.a1 ≤ p.b1) (l2 : p.a2 ≤ p.b2) (h1 : q.a1 ≤ p.a1) (h2 : p.b1 ≤ q.b1) (h3 : q.a2 ≤ p.a2) (h4 : p.b2 ≤ q.b2) (e1 : p.a3 = q.a3) (e2 : p.b3 = q.b3) : (putP g p).sub (putP g q) := by
  have := rt_mono (o := g.t) l1 l2 h1 h2 h3 h4
  have e3 : (putP g p).a3 = (putP g q).a3 := by show tvQ _ _ = tvQ _ _; rw [e1]
  have e4 : (putP g p).b3 = (putP g q).b3 := by show tvQ _ _ = tvQ _ _; rw [e2]
  refine ⟨?_, ?_, by rw [e3, e4]; exact ⟨Rat.le_refl, Rat.le_refl⟩⟩
  · show rtXL _ _ _ _ _ + _ ≤ rtXL _ _ _ _ _ + _ ∧ rtXH _ _ _ _ _ + _ ≤ rtXH _ _ _ _ _ + _
    grind
  · show rtYL _ _ _ _ _ + _ ≤ rtYL _ _ _ _ _ + _ ∧ rtYH _ _ _ _ _ + _ ≤ rtYH _ _ _ _ _ + _
    grind
end Go.Proofs.YtolekonocbeekaaDoor

namespace Go.Proofs.YtolekonocbeekaaDoor
open Go.RowKit
set_option linter.unusedVariables false
set_option maxRecDepth 100000

theorem cos_F (v : Rat) : cosQ v = cosF (v * v) := rfl
theorem sq_le {x y : Rat} (h : 0 ≤ x) (h2 : x ≤ y) : x * x ≤ y * y := by
  have := Rat.mul_nonneg (show 0 ≤ y - x by grind) (show 0 ≤ y + x by grind)
  grind
theorem sq_in {p q t : Rat} (h1 : p ≤ t) (h2 : t ≤ q) : sqL p q ≤ t * t ∧ t * t ≤ sqH p q := by
  constructor
  · unfold sqL
    split
    · exact sq_nn t
    · rename_i hn
      show mn (p * p) (q * q) ≤ t * t
      have hm := mn_le (p * p) (q * q)
      rcases (Rat.le_total : (0 : Rat) ≤ p ∨ p ≤ 0) with hp | hp
      · exact Rat.le_trans hm.1 (sq_le hp h1)
      · have hq : q ≤ 0 := by
          apply Rat.not_lt.1
          intro hq
          exact hn ⟨hp, Rat.le_of_lt hq⟩
        have := sq_le (x := -q) (y := -t) (by grind) (by grind)
        grind
  · show t * t ≤ mx (p * p) (q * q)
    have hm := le_mx (p * p) (q * q)
    rcases (Rat.le_total : (0 : Rat) ≤ t ∨ t ≤ 0) with ht | ht
    · exact Rat.le_trans (sq_le ht h2) hm.2
    · have := sq_le (x := -t) (y := -p) (by grind) (by grind)
      grind
theorem cos_in {p q t : Rat} (h1 : p ≤ t) (h2 : t ≤ q) : csL p q ≤ cosQ t ∧ cosQ t ≤ csH p q := by
  have h := sq_in h1 h2
  rw [cos_F]
  exact ⟨cosF_anti (sq_nn t) h.2, cosF_anti (sqL_nn p q) h.1⟩
theorem sin_mul (v : Rat) : sinQ v * (1 + v * v) = v + v := Rat.div_mul_cancel (onesq_ne v)
theorem sin_le {s t : Rat} (h : 0 ≤ (t - s) * (1 - s * t)) : sinQ s ≤ sinQ t := by
  have e1 := sin_mul s
  have e2 := sin_mul t
  have p1 : 0 < 1 + s * s := onesq_pos s
  have p2 : 0 < 1 + t * t := onesq_pos t
  have key : (sinQ t - sinQ s) * ((1 + s * s) * (1 + t * t)) = 2 * ((t - s) * (1 - s * t)) := by
    have : (sinQ t - sinQ s) * ((1 + s * s) * (1 + t * t)) = (sinQ t * (1 + t * t)) * (1 + s * s) - (sinQ s * (1 + s * s)) * (1 + t * t) := by grind
    rw [this, e1, e2]
    grind
  have := pos_of_mul (x := sinQ t - sinQ s) (Rat.mul_pos p1 p2) (by rw [key]; grind)
  grind
theorem sin_le_one (t : Rat) : sinQ t ≤ 1 := by
  have e := sin_mul t
  have p : 0 < 1 + t * t := onesq_pos t
  have := pos_of_mul (x := 1 - sinQ t) p (by
    have : (1 - sinQ t) * (1 + t * t) = (1 - t) * (1 - t) := by
      have : (1 - sinQ t) * (1 + t * t) = 1 + t * t - sinQ t * (1 + t * t) := by grind
      rw [this, e]
      grind
    rw [this]
    exact sq_nn _)
  grind
theorem one_le_sin (t : Rat) : -1 ≤ sinQ t := by
  have := sin_le_one (-t)
  rw [sin_neg] at this
  grind
/-- Between -1 and 1 the sine rises, beyond it falls. -/
theorem sin_mid {s t : Rat} (h0 : s ≤ t) (h1 : -1 ≤ s) (h2 : t ≤ 1) : sinQ s ≤ sinQ t := by
  have a := Rat.mul_nonneg (show 0 ≤ 1 - s by grind) (show 0 ≤ 1 + t by grind)
  have b := Rat.mul_nonneg (show 0 ≤ 1 + s by grind) (show 0 ≤ 1 - t by grind)
  exact sin_le (Rat.mul_nonneg (by grind) (by grind))
theorem sin_up {s t : Rat} (h0 : s ≤ t) (h1 : 1 ≤ s) : sinQ t ≤ sinQ s := by
  have a := Rat.mul_nonneg (show 0 ≤ s - 1 by grind) (show 0 ≤ t - 1 by grind)
  have b := Rat.mul_nonneg (show 0 ≤ t - s by grind) (show 0 ≤ t * s - 1 by grind)
  exact sin_le (by grind)
theorem sin_low {s t : Rat} (h0 : s ≤ t) (h1 : t ≤ -1) : sinQ t ≤ sinQ s := by
  have := sin_up (s := -t) (t := -s) (by grind) (by grind)
  rw [sin_neg, sin_neg] at this
  grind
theorem m_one_eq : ((-1 : Int) : Rat) = -1 := rfl
theorem sin_in {p q t : Rat} (h1 : p ≤ t) (h2 : t ≤ q) : snL p q ≤ sinQ t ∧ sinQ t ≤ snH p q := by
  have l1 := exL_le p q ((1 : Int) : Rat) (exL p q ((-1 : Int) : Rat) (mn (sinQ p) (sinQ q)))
  have l2 := exL_le p q ((-1 : Int) : Rat) (mn (sinQ p) (sinQ q))
  have l3 := mn_le (sinQ p) (sinQ q)
  have g1 := le_exH p q ((1 : Int) : Rat) (exH p q ((-1 : Int) : Rat) (mx (sinQ p) (sinQ q)))
  have g2 := le_exH p q ((-1 : Int) : Rat) (mx (sinQ p) (sinQ q))
  have g3 := le_mx (sinQ p) (sinQ q)
  constructor
  · unfold snL
    refine Rat.le_trans l1 ?_
    by_cases hb : p ≤ ((-1 : Int) : Rat) ∧ ((-1 : Int) : Rat) ≤ q
    · unfold exL
      rw [if_pos hb]
      have := (mn_le (mn (sinQ p) (sinQ q)) ((-1 : Int) : Rat)).2
      have h := one_le_sin t
      rw [m_one_eq] at this ⊢
      exact Rat.le_trans this h
    · refine Rat.le_trans l2 ?_
      rw [m_one_eq] at hb
      by_cases hp : p ≤ -1
      · have hq : q < -1 := Rat.not_le.1 fun hq => hb ⟨hp, hq⟩
        have := sin_low h2 (Rat.le_of_lt hq)
        grind
      · by_cases ht : t ≤ 1
        · have := sin_mid h1 (by grind) ht
          grind
        · have := sin_up h2 (by grind)
          grind
  · unfold snH
    refine Rat.le_trans ?_ (Rat.le_refl : exH p q ((1 : Int) : Rat) (exH p q ((-1 : Int) : Rat) (mx (sinQ p) (sinQ q))) ≤ _)
    by_cases hb : p ≤ ((1 : Int) : Rat) ∧ ((1 : Int) : Rat) ≤ q
    · unfold exH
      rw [if_pos hb]
      refine Rat.le_trans (sin_le_one t) ?_
      exact (le_mx _ ((1 : Int) : Rat)).2
    · refine Rat.le_trans ?_ g1
      refine Rat.le_trans ?_ g2
      rw [one_eq] at hb
      by_cases hq : 1 ≤ q
      · have hp : 1 < p := Rat.not_le.1 fun hp => hb ⟨hp, hq⟩
        have := sin_up h1 (Rat.le_of_lt hp)
        grind
      · by_cases ht : -1 ≤ t
        · have := sin_mid h2 ht (by grind)
          grind
        · have := sin_low h1 (by grind)
          grind
/-- Wherever the frame is within the pose, the point is within its box. -/
theorem pt_in {p1 q1 p2 q2 p3 q3 u v t x y : Rat} (hu : p1 ≤ u ∧ u ≤ q1) (hv : p2 ≤ v ∧ v ≤ q2) (ht : p3 ≤ t ∧ t ≤ q3) :
    (ptXL p1 p3 q3 x y ≤ u + rotX t x y ∧ u + rotX t x y ≤ ptXH q1 p3 q3 x y) ∧ (ptYL p2 p3 q3 x y ≤ v + rotY t x y ∧ v + rotY t x y ≤ ptYH q2 p3 q3 x y) := by
  have c := cos_in ht.1 ht.2
  have s := sin_in ht.1 ht.2
  have r : ∀ z : Rat, z ≤ z := fun _ => Rat.le_refl
  have a1 := mul_in c.1 c.2 (r x) (r x)
  have a2 := mul_in s.1 s.2 (r y) (r y)
  have a3 := mul_in s.1 s.2 (r x) (r x)
  have a4 := mul_in c.1 c.2 (r y) (r y)
  rw [Rat.mul_comm] at a1 a2 a3 a4
  unfold ptXL ptXH ptYL ptYH rotX rotY
  grind
end Go.Proofs.YtolekonocbeekaaDoor

namespace Go.Proofs.YtolekonocbeekaaDoor
open Go.RowKit
set_option linter.unusedVariables false
set_option maxRecDepth 100000

theorem Hp.belx {w0 w : World} {l : Ents} (h : Hp w0 w l) (s : Ext w) : Below w0.heap.size w0 s.to := h.bel.trans (s.h.mono h.bel.size)
theorem belowQ_any (x n q : Int) (w : World) (hn : 0 < n) (h1 : -9223372036854775808 ≤ x) (h2 : x ≤ 9223372036854775807) (h3 : n ≤ 9223372036854775807) (hq : Hid (x % n = q)) :
    Calls Tryd.prog 18 #[.int .i64 x, .int .i64 n] w fun e w' => e = .returned (.int .i64 q) ∧ Below w.heap.size w w' := hq.out ▸ (below_any x n w hn h1 h2 h3).mono fun _ _ h => ⟨h.1, h.2 ▸ Below.refl _ _⟩
theorem ofQ_nn {n : Int} {d : Nat} (h : 0 ≤ n) (hd : 0 < d) : 0 ≤ ofQ n d := by
  rw [ofQ_div]
  have h1 : (0 : Rat) < ((d : Int) : Rat) := by exact_mod_cast hd
  have h2 : (n : Rat) / ((d : Int) : Rat) * ((d : Int) : Rat) = (n : Rat) := Rat.div_mul_cancel (by grind)
  refine pos_of_mul h1 ?_
  rw [h2]
  exact_mod_cast h
theorem mod_bd (x : Int) {n : Int} (h : 0 < n) : 0 ≤ x % n ∧ x % n < n := ⟨Int.emod_nonneg _ (by omega), Int.emod_lt_of_pos _ h⟩
theorem lgS_q {a b : Rat} (h : a ≤ b) : lgS (some a) (some b) = b - a := by unfold lgS; rw [nmS_some h]
theorem mdS_q {a b : Rat} (h : a ≤ b) : mdS (some a) (some b) = (a + b) / ((2 : Int) : Rat) := by unfold mdS; rw [nmS_some h]
theorem mid_in {a b : Rat} (h : a ≤ b) : a ≤ (a + b) / ((2 : Int) : Rat) ∧ (a + b) / ((2 : Int) : Rat) ≤ b := by
  have e : ((2 : Int) : Rat) = 2 := rfl
  rw [e]
  constructor <;> grind
theorem mx_le_r {a b r : Rat} (h1 : a ≤ r) (h2 : b ≤ r) : mx a b ≤ r := mx_le.2 ⟨h1, h2⟩
theorem sz_mid {k : Nat} {a b : Rat} (h1 : Sz k a) (h2 : Sz k b) : Sz (2 * k + 4) ((a + b) / ((2 : Int) : Rat)) := ((h1.add h2).div (Sz.int 2 (by decide)) (by decide)).mono (by omega)
end Go.Proofs.YtolekonocbeekaaDoor

namespace Go.Proofs.YtolekonocbeekaaDoor
open Go.RowKit
set_option linter.unusedVariables false
set_option maxRecDepth 100000

theorem back_rel (x y t fx fy : Rat) : rotX (-t) (((0 : Int) : Rat) - x) (((0 : Int) : Rat) - y) + rotX (-t) fx fy = gripX ⟨x, y, t⟩ fx fy ∧ rotY (-t) (((0 : Int) : Rat) - x) (((0 : Int) : Rat) - y) + rotY (-t) fx fy = gripY ⟨x, y, t⟩ fx fy := by
  have e : ((0 : Int) : Rat) = 0 := rfl
  rw [e]
  unfold gripX gripY rotX rotY
  show _ = (fx - x) * cosQ (-t) - (fy - y) * sinQ (-t) ∧ _ = (fx - x) * sinQ (-t) + (fy - y) * cosQ (-t)
  constructor <;> grind
theorem tv_comm (a t : Rat) : tvQ a t = (a + t) / (((1 : Int) : Rat) - a * t) := by
  unfold tvQ tnQ tdQ
  rw [Rat.add_comm]
theorem tv_comm2 (a t : Rat) : tvQ a t = (t + a) / (((1 : Int) : Rat) - t * a) := by
  unfold tvQ tnQ tdQ
  rw [Rat.mul_comm]
theorem pt_sz {i j k : Nat} {a1 b1 a2 b2 a3 b3 : Option Rat} {p1 q1 p2 q2 p3 q3 x y : Rat} (A1 : Spn i a1 b1 p1 q1) (A2 : Spn i a2 b2 p2 q2) (A3 : Spn j a3 b3 p3 q3) (zx : Sz k x) (zy : Sz k y) (hk : i + 8 * j + 2 * k + 30 ≤ 10000) : Sz (i + 8 * j + 2 * k + 30) (ptXL p1 p3 q3 x y) ∧ Sz (i + 8 * j + 2 * k + 30) (ptXH q1 p3 q3 x y) ∧ Sz (i + 8 * j + 2 * k + 30) (ptYL p2 p3 q3 x y) ∧ Sz (i + 8 * j + 2 * k + 30) (ptYH q2 p3 q3 x y) := by
  have c := Spn.two (csL_sz A3.zp A3.zq) (csH_sz A3.zp A3.zq) (csL_le p3 q3) (by omega)
  have s := (Spn.two (snL_sz A3.zp A3.zq) (snH_sz A3.zp A3.zq) (snL_le p3 q3) (by omega)).mono (show 4 * j + 8 ≤ 4 * j + 14 by omega)
  have vx := Spn.of (k := k) zx (by omega)
  have vy := Spn.of (k := k) zy (by omega)
  have X := Spn.add A1 (Spn.sub (Spn.mul c vx rfl rfl (by omega)) (Spn.mul s vy rfl rfl (by omega)) rfl rfl (by omega)) rfl rfl (by omega)
  have Y := Spn.add A2 (Spn.add (Spn.mul s vx rfl rfl (by omega)) (Spn.mul c vy rfl rfl (by omega)) rfl rfl (by omega)) rfl rfl (by omega)
  exact ⟨X.zp.mono (by omega), X.zq.mono (by omega), Y.zp.mono (by omega), Y.zq.mono (by omega)⟩
end Go.Proofs.YtolekonocbeekaaDoor

namespace Go.Proofs.YtolekonocbeekaaDoor
open Go.RowKit
set_option linter.unusedVariables false
set_option maxRecDepth 100000

set_option maxHeartbeats 4000000 in
theorem makeAt_any (m n : Int) (u v : Rat) (w : World) (h1 : -1000 ≤ m ∧ m ≤ 1000) (h2 : -1000 ≤ n ∧ n ≤ 1000) (hT : Tb w) (E1 : Hid (ofQ m 4 = u)) (E2 : Hid (ofQ n 4 = v)) :
    Calls Tryd.prog 101 #[.int .i64 m, .int .i64 n] w fun e w' => e = .returned (.agg #[.bool (sgO (some u)), .string (nuO (some u)), .string (deO (some u)), .bool (sgO (some v)), .string (nuO (some v)), .string (deO (some v))]) ∧ Below w.heap.size w w' := by
  have H := Lib.hid (Hp.start hT)
  clear hT
  go_enter Tryd.func101, Tryd.ntmps101
  go_wp2_with (first
      | ((with_reducible refine isAlloc ?_); refine alA H ?_; clear H; intro _ _ H))
  refine (ofQ_any m 4 u _ (by omega) (by omega) (by decide) (by decide) E1).mono ?_
  rintro _ _ ⟨rfl, hb⟩
  replace H := Lib.hid (H.out.go hb)
  clear hb
  go_wp2_with (first
      | go_skip)
  refine (ofQ_any n 4 v _ (by omega) (by omega) (by decide) (by decide) E2).mono ?_
  rintro _ _ ⟨rfl, hb⟩
  replace H := Lib.hid (H.out.go hb)
  clear hb
  go_wp2_with (first
      | ((with_reducible refine isStore ?_); refine stA H ?_; clear H; intro _ H))
  exact bodyPost_ret (results_H H Tryd.results101 (by (first | exact rRat | exact rSpan | exact rPose | exact rFrame | exact rVec | exact rTurn | exact rBox)) rfl (by (repeat (first | exact List.Mem.head _ | refine List.Mem.tail _ ?_ | assumption))) (by rfl)) rfl ⟨rfl, H.out.bel⟩
end Go.Proofs.YtolekonocbeekaaDoor

namespace Go.Proofs.YtolekonocbeekaaDoor
open Go.RowKit
set_option linter.unusedVariables false
set_option maxRecDepth 100000

/-- The points of a slice, cell by cell. -/
def vecC : List (Rat × Rat) → List Value
  | [] => []
  | v :: l => .bool (sgO (some v.1)) :: .string (nuO (some v.1)) :: .string (deO (some v.1)) :: .bool (sgO (some v.2)) :: .string (nuO (some v.2)) :: .string (deO (some v.2)) :: vecC l
theorem vecC_at : ∀ {l : List (Rat × Rat)} {i : Nat} {v : Rat × Rat}, l[i]? = some v → ((vecC l).drop (6 * i)).take 6 = [.bool (sgO (some v.1)), .string (nuO (some v.1)), .string (deO (some v.1)), .bool (sgO (some v.2)), .string (nuO (some v.2)), .string (deO (some v.2))]
  | [], i, v, h => by simp at h
  | x :: l, 0, v, h => by
    have e : x = v := by simpa using h
    subst e
    rfl
  | x :: l, i + 1, v, h => by
    have h2 : l[i]? = some v := by simpa using h
    rw [show 6 * (i + 1) = 6 * i + 1 + 1 + 1 + 1 + 1 + 1 by omega]
    exact vecC_at h2
theorem arL_le : ∀ {l : List Rat} {x y : Rat}, y ∈ x :: l → arL x l ≤ y
  | [], x, y, h => by
    have e : y = x := by simpa using h
    rw [e]
    exact Rat.le_refl
  | z :: l, x, y, h => by
    show arL (mn x z) l ≤ y
    rcases List.mem_cons.1 h with rfl | h
    · exact Rat.le_trans (arL_le (l := l) (x := mn y z) (y := mn y z) (.head _)) (mn_le y z).1
    · rcases List.mem_cons.1 h with rfl | h
      · exact Rat.le_trans (arL_le (l := l) (x := mn x y) (y := mn x y) (.head _)) (mn_le x y).2
      · exact arL_le (.tail _ h)
theorem le_arH : ∀ {l : List Rat} {x y : Rat}, y ∈ x :: l → y ≤ arH x l
  | [], x, y, h => by
    have e : y = x := by simpa using h
    rw [e]
    exact Rat.le_refl
  | z :: l, x, y, h => by
    show y ≤ arH (mx x z) l
    rcases List.mem_cons.1 h with rfl | h
    · exact Rat.le_trans (le_mx y z).1 (le_arH (l := l) (x := mx y z) (y := mx y z) (.head _))
    · rcases List.mem_cons.1 h with rfl | h
      · exact Rat.le_trans (le_mx x y).2 (le_arH (l := l) (x := mx x y) (y := mx x y) (.head _))
      · exact le_arH (.tail _ h)
section
variable {P : Program} {ops : Array Oper} {rest : List Oper} {o : Oper} {a a2 : Act} {w0 w : World} {l : Ents} {Q : Exit → Act → World → Prop}
theorem ldV (H : Hid (Hp w0 w l)) {b : Nat} {T t : TypeId} {vs : List (Rat × Rat)} (X : Hid (Blk w0 b T (vecC vs).toArray)) (i : Nat) {v : Rat × Rat} (hv : Hid (vs[i]? = some v)) {p : Operand} {j : Nat}
    (hK : wpList P ops Q rest a2 w) (ho : o.op = .load t p := by rfl) (hg : Region.wanted o (yielded ops a.tmps) = true := by first | exact wanted_none rfl | exact wanted_some rfl rfl) (hT : RowT P t 6 := by exact rVec) (hp : a.eval p = .pointer (some ⟨b, j, none⟩) := by rfl) (hj : j = 6 * i := by omega)
    (hn : a.put o.dst (.agg #[.bool (sgO (some v.1)), .string (nuO (some v.1)), .string (deO (some v.1)), .bool (sgO (some v.2)), .string (nuO (some v.2)), .string (deO (some v.2))]) = a2 := by (simp only [Act.put, List.setIfInBounds_toArray, List.set_cons_succ, List.set_cons_zero]; rfl)) : wpList P ops Q (o :: rest) a w :=
  wpList_loadB ho hg hT hp (Lib.hid (X.out.below H.out.bel X.out.lt)) (by subst hj; simpa using vecC_at hv.out) rfl (by rw [hn]; exact hK)
theorem ldVm (H : Hid (Hp w0 w l)) {b : Nat} {T t : TypeId} {vs : List (Rat × Rat)} (i : Nat) {v : Rat × Rat} (hv : Hid (vs[i]? = some v)) {p : Operand} {j : Nat}
    (hK : wpList P ops Q rest a2 w) (ho : o.op = .load t p := by rfl) (hg : Region.wanted o (yielded ops a.tmps) = true := by first | exact wanted_none rfl | exact wanted_some rfl rfl) (hT : RowT P t 6 := by exact rVec) (hp : a.eval p = .pointer (some ⟨b, j, none⟩) := by rfl) (hm : (b, T, vecC vs) ∈ l := by repeat (first | exact List.Mem.head _ | refine List.Mem.tail _ ?_ | assumption)) (hj : j = 6 * i := by omega)
    (hn : a.put o.dst (.agg #[.bool (sgO (some v.1)), .string (nuO (some v.1)), .string (deO (some v.1)), .bool (sgO (some v.2)), .string (nuO (some v.2)), .string (deO (some v.2))]) = a2 := by (simp only [Act.put, List.setIfInBounds_toArray, List.set_cons_succ, List.set_cons_zero]; rfl)) : wpList P ops Q (o :: rest) a w :=
  wpList_loadB ho hg hT hp (H.out.get hm) (by subst hj; simpa using vecC_at hv.out) rfl (by rw [hn]; exact hK)
end
end Go.Proofs.YtolekonocbeekaaDoor

namespace Go.Proofs.YtolekonocbeekaaDoor
open Go.RowKit
set_option linter.unusedVariables false
set_option maxRecDepth 100000

/-- The denominators of gantmake.Rat. -/
def ratD (x : Int) : Nat := if x % 6 = 0 then 1 else if x % 6 = 1 then 2 else if x % 6 = 2 then 3 else if x % 6 = 3 then 4 else if x % 6 = 4 then 5 else 8
def ratX (x : Int) : Rat := ofQ (x / 6 % (16 * (ratD x : Int) + 1) - 8 * (ratD x : Int)) (ratD x)
theorem ratX_at {x : Int} {j : Int} {d : Nat} (h : x % 6 = j) (hd : ratD x = d) : ratX x = ofQ (x / 6 % (16 * (d : Int) + 1) - 8 * (d : Int)) d := by unfold ratX; rw [hd]
theorem ratX_sz (x : Int) : Sz 1 (ratX x) := by
  have hd : 1 ≤ ratD x ∧ ratD x ≤ 8 := by unfold ratD; repeat (first | split | decide)
  have := mod_bd (x / 6) (show (0 : Int) < 16 * (ratD x : Int) + 1 by omega)
  exact ofQ_sz _ _ _ (by omega) (by omega) (by omega)
set_option maxHeartbeats 4000000 in
theorem makeRat_any (x : Int) (q : Rat) (w : World) (h1 : 0 ≤ x) (h2 : x < 1048576) (E : Hid (ratX x = q)) (hT : Tb w) :
    Calls Tryd.prog 63 #[.int .i64 x] w fun e w' => e = .returned (.agg #[.bool (sgO (some q)), .string (nuO (some q)), .string (deO (some q))]) ∧ Below w.heap.size w w' := by
  have hq : x.tdiv 6 = x / 6 := Int.tdiv_eq_ediv_of_nonneg h1
  obtain ⟨y, hy⟩ : ∃ y : Int, x / 6 = y := ⟨_, rfl⟩
  have hq2 : x.tdiv 6 = y := hq.trans hy
  have hy0 : 0 ≤ y := by omega
  have hy1 : y < 1048576 := by omega
  have hw0 : IntKind.i64.wrap (x.tdiv 6) = y := by rw [hq2]; exact IntWalk.i64_in _ (by omega)
  by_cases c0 : x % 6 = 0
  · have C := Lib.hid c0
    have n1 := mod_bd y (show (0 : Int) < 17 by decide)
    obtain ⟨m, M⟩ : ∃ z : Int, Hid (y % 17 = z) := ⟨_, rfl⟩
    rw [M.out] at n1
    obtain ⟨n1a, n1b⟩ := n1
    have hw1 : IntKind.i64.wrap (m - 8) = m - 8 := IntWalk.i64_in _ (by omega)
    have E2 : Hid (ofQ (m - 8) 1 = q) := by rw [← M.out, ← hy, ← E.out]; exact (ratX_at c0 (by unfold ratD; rw [c0]; rfl)).symm
    clear c0 hq hy hq2 
    have H := Lib.hid (Hp.start hT)
    clear hT
    go_enter Tryd.func63, Tryd.ntmps63
    go_wp2_with (first
        | ((with_reducible refine isSlice ?_); refine wpList_sliceH H 3 ([.int .i64 1, .int .i64 2, .int .i64 3, .int .i64 4, .int .i64 5, .int .i64 8]) 6 rfl rfl (by intro W; kernel_rfl) ?_; clear H; intro _ _ H; (simp only [Act.put, List.setIfInBounds_toArray, List.set_cons_succ, List.set_cons_zero]))
        | ((with_reducible refine isAlloc ?_); refine alA H ?_; clear H; intro _ _ H))
    refine (belowQ_any x 6 0 _ (by decide) (by omega) (by omega) (by decide) C).mono ?_
    rintro _ _ ⟨rfl, hb⟩
    replace H := Lib.hid (H.out.go hb)
    clear hb
    go_wp2_with (first
        | ((with_reducible refine isLoad ?_); refine ld1A H ?_))
    refine (belowQ_any y 17 m _ (by decide) (by omega) (by omega) (by decide) M).mono ?_
    rintro _ _ ⟨rfl, hb⟩
    replace H := Lib.hid (H.out.go hb)
    clear hb
    go_wp2_with (first
        | go_skip)
    refine (ofQ_any (m - 8) 1 q _ (by omega) (by omega) (by decide) (by decide) E2).mono ?_
    rintro _ _ ⟨rfl, hb⟩
    replace H := Lib.hid (H.out.go hb)
    clear hb
    go_wp2_with (first
        | ((with_reducible refine isStore ?_); refine stA H ?_; clear H; intro _ H))
    exact bodyPost_ret (results_H H Tryd.results63 (by (first | exact rRat | exact rSpan | exact rPose | exact rFrame | exact rVec | exact rTurn | exact rBox)) rfl (by (repeat (first | exact List.Mem.head _ | refine List.Mem.tail _ ?_ | assumption))) (by rfl)) rfl ⟨rfl, H.out.bel⟩
  by_cases c1 : x % 6 = 1
  · have C := Lib.hid c1
    have n1 := mod_bd y (show (0 : Int) < 33 by decide)
    obtain ⟨m, M⟩ : ∃ z : Int, Hid (y % 33 = z) := ⟨_, rfl⟩
    rw [M.out] at n1
    obtain ⟨n1a, n1b⟩ := n1
    have hw1 : IntKind.i64.wrap (m - 16) = m - 16 := IntWalk.i64_in _ (by omega)
    have E2 : Hid (ofQ (m - 16) 2 = q) := by rw [← M.out, ← hy, ← E.out]; exact (ratX_at c1 (by unfold ratD; rw [c1]; rfl)).symm
    clear c1 hq hy hq2 c0
    have H := Lib.hid (Hp.start hT)
    clear hT
    go_enter Tryd.func63, Tryd.ntmps63
    go_wp2_with (first
        | ((with_reducible refine isSlice ?_); refine wpList_sliceH H 3 ([.int .i64 1, .int .i64 2, .int .i64 3, .int .i64 4, .int .i64 5, .int .i64 8]) 6 rfl rfl (by intro W; kernel_rfl) ?_; clear H; intro _ _ H; (simp only [Act.put, List.setIfInBounds_toArray, List.set_cons_succ, List.set_cons_zero]))
        | ((with_reducible refine isAlloc ?_); refine alA H ?_; clear H; intro _ _ H))
    refine (belowQ_any x 6 1 _ (by decide) (by omega) (by omega) (by decide) C).mono ?_
    rintro _ _ ⟨rfl, hb⟩
    replace H := Lib.hid (H.out.go hb)
    clear hb
    go_wp2_with (first
        | ((with_reducible refine isLoad ?_); refine ld1A H ?_))
    refine (belowQ_any y 33 m _ (by decide) (by omega) (by omega) (by decide) M).mono ?_
    rintro _ _ ⟨rfl, hb⟩
    replace H := Lib.hid (H.out.go hb)
    clear hb
    go_wp2_with (first
        | go_skip)
    refine (ofQ_any (m - 16) 2 q _ (by omega) (by omega) (by decide) (by decide) E2).mono ?_
    rintro _ _ ⟨rfl, hb⟩
    replace H := Lib.hid (H.out.go hb)
    clear hb
    go_wp2_with (first
        | ((with_reducible refine isStore ?_); refine stA H ?_; clear H; intro _ H))
    exact bodyPost_ret (results_H H Tryd.results63 (by (first | exact rRat | exact rSpan | exact rPose | exact rFrame | exact rVec | exact rTurn | exact rBox)) rfl (by (repeat (first | exact List.Mem.head _ | refine List.Mem.tail _ ?_ | assumption))) (by rfl)) rfl ⟨rfl, H.out.bel⟩
  by_cases c2 : x % 6 = 2
  · have C := Lib.hid c2
    have n1 := mod_bd y (show (0 : Int) < 49 by decide)
    obtain ⟨m, M⟩ : ∃ z : Int, Hid (y % 49 = z) := ⟨_, rfl⟩
    rw [M.out] at n1
    obtain ⟨n1a, n1b⟩ := n1
    have hw1 : IntKind.i64.wrap (m - 24) = m - 24 := IntWalk.i64_in _ (by omega)
    have E2 : Hid (ofQ (m - 24) 3 = q) := by rw [← M.out, ← hy, ← E.out]; exact (ratX_at c2 (by unfold ratD; rw [c2]; rfl)).symm
    clear c2 hq hy hq2 c0 c1
    have H := Lib.hid (Hp.start hT)
    clear hT
    go_enter Tryd.func63, Tryd.ntmps63
    go_wp2_with (first
        | ((with_reducible refine isSlice ?_); refine wpList_sliceH H 3 ([.int .i64 1, .int .i64 2, .int .i64 3, .int .i64 4, .int .i64 5, .int .i64 8]) 6 rfl rfl (by intro W; kernel_rfl) ?_; clear H; intro _ _ H; (simp only [Act.put, List.setIfInBounds_toArray, List.set_cons_succ, List.set_cons_zero]))
        | ((with_reducible refine isAlloc ?_); refine alA H ?_; clear H; intro _ _ H))
    refine (belowQ_any x 6 2 _ (by decide) (by omega) (by omega) (by decide) C).mono ?_
    rintro _ _ ⟨rfl, hb⟩
    replace H := Lib.hid (H.out.go hb)
    clear hb
    go_wp2_with (first
        | ((with_reducible refine isLoad ?_); refine ld1A H ?_))
    refine (belowQ_any y 49 m _ (by decide) (by omega) (by omega) (by decide) M).mono ?_
    rintro _ _ ⟨rfl, hb⟩
    replace H := Lib.hid (H.out.go hb)
    clear hb
    go_wp2_with (first
        | go_skip)
    refine (ofQ_any (m - 24) 3 q _ (by omega) (by omega) (by decide) (by decide) E2).mono ?_
    rintro _ _ ⟨rfl, hb⟩
    replace H := Lib.hid (H.out.go hb)
    clear hb
    go_wp2_with (first
        | ((with_reducible refine isStore ?_); refine stA H ?_; clear H; intro _ H))
    exact bodyPost_ret (results_H H Tryd.results63 (by (first | exact rRat | exact rSpan | exact rPose | exact rFrame | exact rVec | exact rTurn | exact rBox)) rfl (by (repeat (first | exact List.Mem.head _ | refine List.Mem.tail _ ?_ | assumption))) (by rfl)) rfl ⟨rfl, H.out.bel⟩
  by_cases c3 : x % 6 = 3
  · have C := Lib.hid c3
    have n1 := mod_bd y (show (0 : Int) < 65 by decide)
    obtain ⟨m, M⟩ : ∃ z : Int, Hid (y % 65 = z) := ⟨_, rfl⟩
    rw [M.out] at n1
    obtain ⟨n1a, n1b⟩ := n1
    have hw1 : IntKind.i64.wrap (m - 32) = m - 32 := IntWalk.i64_in _ (by omega)
    have E2 : Hid (ofQ (m - 32) 4 = q) := by rw [← M.out, ← hy, ← E.out]; exact (ratX_at c3 (by unfold ratD; rw [c3]; rfl)).symm
    clear c3 hq hy hq2 c0 c1 c2
    have H := Lib.hid (Hp.start hT)
    clear hT
    go_enter Tryd.func63, Tryd.ntmps63
    go_wp2_with (first
        | ((with_reducible refine isSlice ?_); refine wpList_sliceH H 3 ([.int .i64 1, .int .i64 2, .int .i64 3, .int .i64 4, .int .i64 5, .int .i64 8]) 6 rfl rfl (by intro W; kernel_rfl) ?_; clear H; intro _ _ H; (simp only [Act.put, List.setIfInBounds_toArray, List.set_cons_succ, List.set_cons_zero]))
        | ((with_reducible refine isAlloc ?_); refine alA H ?_; clear H; intro _ _ H))
    refine (belowQ_any x 6 3 _ (by decide) (by omega) (by omega) (by decide) C).mono ?_
    rintro _ _ ⟨rfl, hb⟩
    replace H := Lib.hid (H.out.go hb)
    clear hb
    go_wp2_with (first
        | ((with_reducible refine isLoad ?_); refine ld1A H ?_))
    refine (belowQ_any y 65 m _ (by decide) (by omega) (by omega) (by decide) M).mono ?_
    rintro _ _ ⟨rfl, hb⟩
    replace H := Lib.hid (H.out.go hb)
    clear hb
    go_wp2_with (first
        | go_skip)
    refine (ofQ_any (m - 32) 4 q _ (by omega) (by omega) (by decide) (by decide) E2).mono ?_
    rintro _ _ ⟨rfl, hb⟩
    replace H := Lib.hid (H.out.go hb)
    clear hb
    go_wp2_with (first
        | ((with_reducible refine isStore ?_); refine stA H ?_; clear H; intro _ H))
    exact bodyPost_ret (results_H H Tryd.results63 (by (first | exact rRat | exact rSpan | exact rPose | exact rFrame | exact rVec | exact rTurn | exact rBox)) rfl (by (repeat (first | exact List.Mem.head _ | refine List.Mem.tail _ ?_ | assumption))) (by rfl)) rfl ⟨rfl, H.out.bel⟩
  by_cases c4 : x % 6 = 4
  · have C := Lib.hid c4
    have n1 := mod_bd y (show (0 : Int) < 81 by decide)
    obtain ⟨m, M⟩ : ∃ z : Int, Hid (y % 81 = z) := ⟨_, rfl⟩
    rw [M.out] at n1
    obtain ⟨n1a, n1b⟩ := n1
    have hw1 : IntKind.i64.wrap (m - 40) = m - 40 := IntWalk.i64_in _ (by omega)
    have E2 : Hid (ofQ (m - 40) 5 = q) := by rw [← M.out, ← hy, ← E.out]; exact (ratX_at c4 (by unfold ratD; rw [c4]; rfl)).symm
    clear c4 hq hy hq2 c0 c1 c2 c3
    have H := Lib.hid (Hp.start hT)
    clear hT
    go_enter Tryd.func63, Tryd.ntmps63
    go_wp2_with (first
        | ((with_reducible refine isSlice ?_); refine wpList_sliceH H 3 ([.int .i64 1, .int .i64 2, .int .i64 3, .int .i64 4, .int .i64 5, .int .i64 8]) 6 rfl rfl (by intro W; kernel_rfl) ?_; clear H; intro _ _ H; (simp only [Act.put, List.setIfInBounds_toArray, List.set_cons_succ, List.set_cons_zero]))
        | ((with_reducible refine isAlloc ?_); refine alA H ?_; clear H; intro _ _ H))
    refine (belowQ_any x 6 4 _ (by decide) (by omega) (by omega) (by decide) C).mono ?_
    rintro _ _ ⟨rfl, hb⟩
    replace H := Lib.hid (H.out.go hb)
    clear hb
    go_wp2_with (first
        | ((with_reducible refine isLoad ?_); refine ld1A H ?_))
    refine (belowQ_any y 81 m _ (by decide) (by omega) (by omega) (by decide) M).mono ?_
    rintro _ _ ⟨rfl, hb⟩
    replace H := Lib.hid (H.out.go hb)
    clear hb
    go_wp2_with (first
        | go_skip)
    refine (ofQ_any (m - 40) 5 q _ (by omega) (by omega) (by decide) (by decide) E2).mono ?_
    rintro _ _ ⟨rfl, hb⟩
    replace H := Lib.hid (H.out.go hb)
    clear hb
    go_wp2_with (first
        | ((with_reducible refine isStore ?_); refine stA H ?_; clear H; intro _ H))
    exact bodyPost_ret (results_H H Tryd.results63 (by (first | exact rRat | exact rSpan | exact rPose | exact rFrame | exact rVec | exact rTurn | exact rBox)) rfl (by (repeat (first | exact List.Mem.head _ | refine List.Mem.tail _ ?_ | assumption))) (by rfl)) rfl ⟨rfl, H.out.bel⟩
  have c5 : x % 6 = 5 := by omega
  have C := Lib.hid c5
  have n1 := mod_bd y (show (0 : Int) < 129 by decide)
  obtain ⟨m, M⟩ : ∃ z : Int, Hid (y % 129 = z) := ⟨_, rfl⟩
  rw [M.out] at n1
  obtain ⟨n1a, n1b⟩ := n1
  have hw1 : IntKind.i64.wrap (m - 64) = m - 64 := IntWalk.i64_in _ (by omega)
  have E2 : Hid (ofQ (m - 64) 8 = q) := by rw [← M.out, ← hy, ← E.out]; exact (ratX_at c5 (by unfold ratD; rw [c5]; rfl)).symm
  clear c5 hq hy hq2 c0 c1 c2 c3 c4
  have H := Lib.hid (Hp.start hT)
  clear hT
  go_enter Tryd.func63, Tryd.ntmps63
  go_wp2_with (first
      | ((with_reducible refine isSlice ?_); refine wpList_sliceH H 3 ([.int .i64 1, .int .i64 2, .int .i64 3, .int .i64 4, .int .i64 5, .int .i64 8]) 6 rfl rfl (by intro W; kernel_rfl) ?_; clear H; intro _ _ H; (simp only [Act.put, List.setIfInBounds_toArray, List.set_cons_succ, List.set_cons_zero]))
      | ((with_reducible refine isAlloc ?_); refine alA H ?_; clear H; intro _ _ H))
  refine (belowQ_any x 6 5 _ (by decide) (by omega) (by omega) (by decide) C).mono ?_
  rintro _ _ ⟨rfl, hb⟩
  replace H := Lib.hid (H.out.go hb)
  clear hb
  go_wp2_with (first
      | ((with_reducible refine isLoad ?_); refine ld1A H ?_))
  refine (belowQ_any y 129 m _ (by decide) (by omega) (by omega) (by decide) M).mono ?_
  rintro _ _ ⟨rfl, hb⟩
  replace H := Lib.hid (H.out.go hb)
  clear hb
  go_wp2_with (first
      | go_skip)
  refine (ofQ_any (m - 64) 8 q _ (by omega) (by omega) (by decide) (by decide) E2).mono ?_
  rintro _ _ ⟨rfl, hb⟩
  replace H := Lib.hid (H.out.go hb)
  clear hb
  go_wp2_with (first
      | ((with_reducible refine isStore ?_); refine stA H ?_; clear H; intro _ H))
  exact bodyPost_ret (results_H H Tryd.results63 (by (first | exact rRat | exact rSpan | exact rPose | exact rFrame | exact rVec | exact rTurn | exact rBox)) rfl (by (repeat (first | exact List.Mem.head _ | refine List.Mem.tail _ ?_ | assumption))) (by rfl)) rfl ⟨rfl, H.out.bel⟩
end Go.Proofs.YtolekonocbeekaaDoor

namespace Go.Proofs.YtolekonocbeekaaDoor
open Go.RowKit
set_option linter.unusedVariables false
set_option maxRecDepth 100000

set_option maxHeartbeats 4000000 in
theorem makeVec_any (S : Sd) (u v : Rat) (w : World) (hS : S.ok w) (hT : Tb w) (E1 : Hid (ratX (S.nx 1048576) = u)) (E2 : Hid (ratX (S.sn.nx 1048576) = v)) :
    Calls Tryd.prog 25 #[.slice S.A S.xs.length S.c] w fun e w' => e = .returned (.agg #[.bool (sgO (some u)), .string (nuO (some u)), .string (deO (some u)), .bool (sgO (some v)), .string (nuO (some v)), .string (deO (some v))]) ∧ Below w.heap.size w w' := by
  have H := Lib.hid (Hp.start hT)
  have HS0 := Lib.hid hS
  have HS1 := Lib.hid hS.next
  have n1 := S.nx_bd 1048576 (by decide)
  have n2 := S.sn.nx_bd 1048576 (by decide)
  clear hT hS
  go_enter Tryd.func25, Tryd.ntmps25
  go_wp2_with (first
      | ((with_reducible refine isBox ?_); refine bxA H ?_; clear H; intro _ _ H)
      | ((with_reducible refine isAlloc ?_); refine alA H ?_; clear H; intro _ _ H))
  refine (nextH_any S _ 1048576 H HS0 (by unfold Hid; (repeat (first | apply Upd.head | apply Upd.tail | assumption))) (by decide) (by decide)).mono ?_
  rintro _ _ ⟨rfl, H2⟩
  replace H := Lib.hid H2
  clear H2
  go_wp2_with (first
      | go_skip)
  refine (makeRat_any (S.nx 1048576) u _ n1.1 n1.2 E1 H.out.tb).mono ?_
  rintro _ _ ⟨rfl, hb⟩
  replace H := Lib.hid (H.out.go hb)
  clear hb
  go_wp2_with (first
      | go_skip)
  refine (nextH_any S.sn _ 1048576 H HS1 (by unfold Hid; (repeat (first | apply Upd.head | apply Upd.tail | assumption))) (by decide) (by decide)).mono ?_
  rintro _ _ ⟨rfl, H2⟩
  replace H := Lib.hid H2
  clear H2
  go_wp2_with (first
      | go_skip)
  refine (makeRat_any (S.sn.nx 1048576) v _ n2.1 n2.2 E2 H.out.tb).mono ?_
  rintro _ _ ⟨rfl, hb⟩
  replace H := Lib.hid (H.out.go hb)
  clear hb
  go_wp2_with (first
      | ((with_reducible refine isStore ?_); refine stA H ?_; clear H; intro _ H))
  exact bodyPost_ret (results_H H Tryd.results25 (by (first | exact rRat | exact rSpan | exact rPose | exact rFrame | exact rVec | exact rTurn | exact rBox)) rfl (by (repeat (first | exact List.Mem.head _ | refine List.Mem.tail _ ?_ | assumption))) (by rfl)) rfl ⟨rfl, H.out.bel⟩
end Go.Proofs.YtolekonocbeekaaDoor

namespace Go.Proofs.YtolekonocbeekaaDoor
open Go.RowKit
set_option linter.unusedVariables false
set_option maxRecDepth 100000

theorem Upd.mem2 {l l' : Ents} {b : Nat} {T : TypeId} {cs ds : List Value} (h : Upd l b T cs ds l') : (b, T, ds) ∈ l' := by
  induction h with
  | head => exact .head _
  | tail _ ih => exact .tail _ ih
/-- The corners of gantmake.Poly. -/
def polyC (a h k x : Int) : List (Rat × Rat) :=
  if k = 0 then [(ofQ (-a) 4, ofQ (-h) 4), (ofQ a 4, ofQ (-h) 4), (ofQ a 4, ofQ h 4), (ofQ (-a) 4, ofQ h 4)] else if k = 1 then [(ofQ (-a) 4, ofQ (-h) 4), (ofQ a 4, ofQ (-h) 4), (ofQ (x - a) 4, ofQ h 4)] else if k = 2 then [(ofQ (-a - 1) 4, ofQ (-h - 1) 4), (ofQ a 4, ofQ (-h - 1) 4), (ofQ (a + 1) 4, ofQ (-h) 4), (ofQ (a + 1) 4, ofQ h 4), (ofQ (-a - 1) 4, ofQ h 4)] else [(ofQ (-a) 4, ofQ 0 4), (ofQ 0 4, ofQ (-h) 4), (ofQ a 4, ofQ 0 4), (ofQ 0 4, ofQ h 4)]
def polyL (S : Sd) : List (Rat × Rat) := polyC (1 + S.nx 6) (1 + S.sn.nx 6) (S.s2.nx 4) (S.s2.sn.nx (2 * (1 + S.nx 6) + 1))
theorem polyL_at (S : Sd) {a h : Int} (ha : 1 + S.nx 6 = a) (hh : 1 + S.sn.nx 6 = h) : (S.s2.nx 4 = 0 → polyL S = [(ofQ (-a) 4, ofQ (-h) 4), (ofQ a 4, ofQ (-h) 4), (ofQ a 4, ofQ h 4), (ofQ (-a) 4, ofQ h 4)]) ∧ (S.s2.nx 4 = 1 → polyL S = [(ofQ (-a) 4, ofQ (-h) 4), (ofQ a 4, ofQ (-h) 4), (ofQ (S.s2.sn.nx (2 * a + 1) - a) 4, ofQ h 4)]) ∧ (S.s2.nx 4 = 2 → polyL S = [(ofQ (-a - 1) 4, ofQ (-h - 1) 4), (ofQ a 4, ofQ (-h - 1) 4), (ofQ (a + 1) 4, ofQ (-h) 4), (ofQ (a + 1) 4, ofQ h 4), (ofQ (-a - 1) 4, ofQ h 4)]) ∧ (S.s2.nx 4 = 3 → polyL S = [(ofQ (-a) 4, ofQ 0 4), (ofQ 0 4, ofQ (-h) 4), (ofQ a 4, ofQ 0 4), (ofQ 0 4, ofQ h 4)]) := by
  unfold polyL polyC
  rw [ha, hh]
  refine ⟨fun e => ?_, fun e => ?_, fun e => ?_, fun e => ?_⟩ <;> rw [e] <;> rfl
theorem polyC_ok (a h k x : Int) (ha : 1 ≤ a ∧ a ≤ 6) (hh : 1 ≤ h ∧ h ≤ 6) (hx : 0 ≤ x ∧ x ≤ 12) : ∃ v0 vs, polyC a h k x = v0 :: vs ∧ vs.length < 10 ∧ ∀ v ∈ v0 :: vs, Sz 1 v.1 ∧ Sz 1 v.2 := by
  have key : ∀ z : Int, -20 ≤ z → z ≤ 20 → Sz 1 (ofQ z 4) := fun z h1 h2 => ofQ_sz _ _ _ (by omega) (by decide) (by decide)
  unfold polyC
  repeat' split
  all_goals
    refine ⟨_, _, rfl, by simp, ?_⟩
    simp only [List.mem_cons, List.not_mem_nil, or_false, forall_eq_or_imp, forall_eq]
    repeat' apply And.intro
  all_goals exact key _ (by omega) (by omega)
theorem polyL_ok (S : Sd) : ∃ v0 vs, polyL S = v0 :: vs ∧ vs.length < 10 ∧ ∀ v ∈ v0 :: vs, Sz 1 v.1 ∧ Sz 1 v.2 := by
  have n1 := S.nx_bd 6 (by decide)
  have n2 := S.sn.nx_bd 6 (by decide)
  have n3 := S.s2.sn.nx_bd (2 * (1 + S.nx 6) + 1) (by omega)
  exact polyC_ok _ _ _ _ (by omega) (by omega) (by omega)
set_option maxHeartbeats 8000000 in
theorem poly_any {w0 w : World} {m : Ents} (S : Sd) (g : Nat) (H : Hid (Hp w0 w m)) (hS : Hid (S.ok w0)) (hm : (g, 80, [S.v]) ∈ m) :
    Calls Tryd.prog 64 #[.pointer (some ⟨g, 0, none⟩)] w fun e w' => ∃ b m', e = .returned (.slice (some ⟨b, 0, none⟩) (polyL S).length (polyL S).length) ∧ Hp w0 w' ((b, 31, vecC (polyL S)) :: m') := by
  obtain ⟨m1, hm1⟩ := upd_of_mem [S.sn.v] hm
  obtain ⟨m2, hm2⟩ := upd_of_mem [S.s2.v] hm1.mem2
  obtain ⟨m3, hm3⟩ := upd_of_mem [S.s2.sn.v] hm2.mem2
  have U1 := Lib.hid hm1
  have U2 := Lib.hid hm2
  have U3 := Lib.hid hm3
  have HS1 := Lib.hid hS.out.next
  have HS2 := Lib.hid hS.out.s2
  have HS3 := Lib.hid hS.out.s2.next
  have n1 := S.nx_bd 6 (by decide)
  have n2 := S.sn.nx_bd 6 (by decide)
  have n3 := S.s2.nx_bd 4 (by decide)
  obtain ⟨a, ha⟩ : ∃ a : Int, 1 + S.nx 6 = a := ⟨_, rfl⟩
  obtain ⟨h, hh⟩ : ∃ h : Int, 1 + S.sn.nx 6 = h := ⟨_, rfl⟩
  have a1 : 1 ≤ a ∧ a ≤ 6 := by omega
  have h1 : 1 ≤ h ∧ h ≤ 6 := by omega
  obtain ⟨a1l, a1r⟩ := a1
  obtain ⟨h1l, h1r⟩ := h1
  have wa : IntKind.i64.wrap (1 + S.nx 6) = a := by rw [ha]; exact IntWalk.i64_in _ (by omega)
  have wh : IntKind.i64.wrap (1 + S.sn.nx 6) = h := by rw [hh]; exact IntWalk.i64_in _ (by omega)
  have wna : IntKind.i64.wrap (-a) = -a := IntWalk.i64_in _ (by omega)
  have wnh : IntKind.i64.wrap (-h) = -h := IntWalk.i64_in _ (by omega)
  have L0 := polyL_at S ha hh
  clear hm hm1 hm2 hm3 n1 n2 ha hh
  by_cases c0 : S.s2.nx 4 = 0
  · have L1 := L0.1 c0
    clear L0
    obtain ⟨an, Ean⟩ : ∃ z : Rat, Hid (ofQ (-a) 4 = z) := ⟨_, rfl⟩
    obtain ⟨hn, Ehn⟩ : ∃ z : Rat, Hid (ofQ (-h) 4 = z) := ⟨_, rfl⟩
    obtain ⟨ap, Eap⟩ : ∃ z : Rat, Hid (ofQ a 4 = z) := ⟨_, rfl⟩
    obtain ⟨hp, Ehp⟩ : ∃ z : Rat, Hid (ofQ h 4 = z) := ⟨_, rfl⟩
    rw [Ean.out, Ehn.out, Eap.out, Ehp.out] at L1
    rw [L1]
    clear L1
    go_enter Tryd.func64, Tryd.ntmps64
    go_wp2_with (first
        | go_skip)
    refine (nextH_any S g 6 H hS U1 (by decide) (by decide)).mono ?_
    rintro _ _ ⟨rfl, H2⟩
    replace H := Lib.hid H2
    clear H2
    go_wp2_with (first
        | go_skip)
    refine (nextH_any S.sn g 6 H HS1 U2 (by decide) (by decide)).mono ?_
    rintro _ _ ⟨rfl, H2⟩
    replace H := Lib.hid H2
    clear H2
    go_wp2_with (first
        | go_skip)
    refine (nextH_any S.s2 g 4 H HS2 U3 (by decide) (by decide)).mono ?_
    rintro _ _ ⟨rfl, H2⟩
    replace H := Lib.hid H2
    clear H2
    go_wp2_with (first
        | go_skip)
    refine (makeAt_any (-a) (-h) an hn _ (by omega) (by omega) H.out.tb Ean Ehn).mono ?_
    rintro _ _ ⟨rfl, hb⟩
    replace H := Lib.hid (H.out.go hb)
    clear hb
    go_wp2_with (first
        | go_skip)
    refine (makeAt_any (a) (-h) ap hn _ (by omega) (by omega) H.out.tb Eap Ehn).mono ?_
    rintro _ _ ⟨rfl, hb⟩
    replace H := Lib.hid (H.out.go hb)
    clear hb
    go_wp2_with (first
        | go_skip)
    refine (makeAt_any (a) (h) ap hp _ (by omega) (by omega) H.out.tb Eap Ehp).mono ?_
    rintro _ _ ⟨rfl, hb⟩
    replace H := Lib.hid (H.out.go hb)
    clear hb
    go_wp2_with (first
        | go_skip)
    refine (makeAt_any (-a) (h) an hp _ (by omega) (by omega) H.out.tb Ean Ehp).mono ?_
    rintro _ _ ⟨rfl, hb⟩
    replace H := Lib.hid (H.out.go hb)
    clear hb
    go_wp2_with (first
        | ((with_reducible refine isSlice ?_); refine wpList_sliceH H 31 (vecC [(an, hn), (ap, hn), (ap, hp), (an, hp)]) 4 rfl rfl (by intro W; kernel_rfl) ?_; clear H; intro _ _ H; (simp only [Act.put, List.setIfInBounds_toArray, List.set_cons_succ, List.set_cons_zero])))
    go_ret
    exact ⟨_, _, rfl, H.out⟩
  by_cases c1 : S.s2.nx 4 = 1
  · have L1 := L0.2.1 c1
    clear L0
    clear c0
    have n5 := S.s2.sn.nx_bd (2 * a + 1) (by omega)
    obtain ⟨x, hx⟩ : ∃ x : Int, S.s2.sn.nx (2 * a + 1) = x := ⟨_, rfl⟩
    rw [hx] at n5 L1
    obtain ⟨n5l, n5r⟩ := n5
    have w2 : IntKind.i64.wrap (2 * a) = 2 * a := IntWalk.i64_in _ (by omega)
    have w3 : IntKind.i64.wrap (2 * a + 1) = 2 * a + 1 := IntWalk.i64_in _ (by omega)
    have wx : IntKind.i64.wrap (x - a) = x - a := IntWalk.i64_in _ (by omega)
    obtain ⟨an, Ean⟩ : ∃ z : Rat, Hid (ofQ (-a) 4 = z) := ⟨_, rfl⟩
    obtain ⟨hn, Ehn⟩ : ∃ z : Rat, Hid (ofQ (-h) 4 = z) := ⟨_, rfl⟩
    obtain ⟨ap, Eap⟩ : ∃ z : Rat, Hid (ofQ a 4 = z) := ⟨_, rfl⟩
    obtain ⟨xa, Exa⟩ : ∃ z : Rat, Hid (ofQ (x - a) 4 = z) := ⟨_, rfl⟩
    obtain ⟨hp, Ehp⟩ : ∃ z : Rat, Hid (ofQ h 4 = z) := ⟨_, rfl⟩
    rw [Ean.out, Ehn.out, Eap.out, Exa.out, Ehp.out] at L1
    rw [L1]
    clear L1
    go_enter Tryd.func64, Tryd.ntmps64
    go_wp2_with (first
        | go_skip)
    refine (nextH_any S g 6 H hS U1 (by decide) (by decide)).mono ?_
    rintro _ _ ⟨rfl, H2⟩
    replace H := Lib.hid H2
    clear H2
    go_wp2_with (first
        | go_skip)
    refine (nextH_any S.sn g 6 H HS1 U2 (by decide) (by decide)).mono ?_
    rintro _ _ ⟨rfl, H2⟩
    replace H := Lib.hid H2
    clear H2
    go_wp2_with (first
        | go_skip)
    refine (nextH_any S.s2 g 4 H HS2 U3 (by decide) (by decide)).mono ?_
    rintro _ _ ⟨rfl, H2⟩
    replace H := Lib.hid H2
    clear H2
    go_wp2_with (first
        | go_skip)
    refine (makeAt_any (-a) (-h) an hn _ (by omega) (by omega) H.out.tb Ean Ehn).mono ?_
    rintro _ _ ⟨rfl, hb⟩
    replace H := Lib.hid (H.out.go hb)
    clear hb
    go_wp2_with (first
        | go_skip)
    refine (makeAt_any (a) (-h) ap hn _ (by omega) (by omega) H.out.tb Eap Ehn).mono ?_
    rintro _ _ ⟨rfl, hb⟩
    replace H := Lib.hid (H.out.go hb)
    clear hb
    go_wp2_with (first
        | go_skip)
    obtain ⟨m4, hm4⟩ := upd_of_mem [S.s2.sn.sn.v] U3.out.mem2
    have U4 := Lib.hid hm4
    clear hm4
    refine (nextH_any S.s2.sn g (2 * a + 1) H HS3 U4 (by omega) (by omega)).mono ?_
    rintro _ _ ⟨rfl, H2⟩
    replace H := Lib.hid H2
    clear H2
    rw [hx]
    clear hx
    go_wp2_with (first
        | go_skip)
    refine (makeAt_any ((x - a)) (h) xa hp _ (by omega) (by omega) H.out.tb Exa Ehp).mono ?_
    rintro _ _ ⟨rfl, hb⟩
    replace H := Lib.hid (H.out.go hb)
    clear hb
    go_wp2_with (first
        | ((with_reducible refine isSlice ?_); refine wpList_sliceH H 31 (vecC [(an, hn), (ap, hn), (xa, hp)]) 3 rfl rfl (by intro W; kernel_rfl) ?_; clear H; intro _ _ H; (simp only [Act.put, List.setIfInBounds_toArray, List.set_cons_succ, List.set_cons_zero])))
    go_ret
    exact ⟨_, _, rfl, H.out⟩
  by_cases c2 : S.s2.nx 4 = 2
  · have L1 := L0.2.2.1 c2
    clear L0
    clear c0 c1
    have w4 : IntKind.i64.wrap (-a - 1) = -a - 1 := IntWalk.i64_in _ (by omega)
    have w5 : IntKind.i64.wrap (-h - 1) = -h - 1 := IntWalk.i64_in _ (by omega)
    have w6 : IntKind.i64.wrap (a + 1) = a + 1 := IntWalk.i64_in _ (by omega)
    obtain ⟨am, Eam⟩ : ∃ z : Rat, Hid (ofQ (-a - 1) 4 = z) := ⟨_, rfl⟩
    obtain ⟨hm, Ehm⟩ : ∃ z : Rat, Hid (ofQ (-h - 1) 4 = z) := ⟨_, rfl⟩
    obtain ⟨ap, Eap⟩ : ∃ z : Rat, Hid (ofQ a 4 = z) := ⟨_, rfl⟩
    obtain ⟨aq, Eaq⟩ : ∃ z : Rat, Hid (ofQ (a + 1) 4 = z) := ⟨_, rfl⟩
    obtain ⟨hn, Ehn⟩ : ∃ z : Rat, Hid (ofQ (-h) 4 = z) := ⟨_, rfl⟩
    obtain ⟨hp, Ehp⟩ : ∃ z : Rat, Hid (ofQ h 4 = z) := ⟨_, rfl⟩
    rw [Eam.out, Ehm.out, Eap.out, Eaq.out, Ehn.out, Ehp.out] at L1
    rw [L1]
    clear L1
    go_enter Tryd.func64, Tryd.ntmps64
    go_wp2_with (first
        | go_skip)
    refine (nextH_any S g 6 H hS U1 (by decide) (by decide)).mono ?_
    rintro _ _ ⟨rfl, H2⟩
    replace H := Lib.hid H2
    clear H2
    go_wp2_with (first
        | go_skip)
    refine (nextH_any S.sn g 6 H HS1 U2 (by decide) (by decide)).mono ?_
    rintro _ _ ⟨rfl, H2⟩
    replace H := Lib.hid H2
    clear H2
    go_wp2_with (first
        | go_skip)
    refine (nextH_any S.s2 g 4 H HS2 U3 (by decide) (by decide)).mono ?_
    rintro _ _ ⟨rfl, H2⟩
    replace H := Lib.hid H2
    clear H2
    go_wp2_with (first
        | go_skip)
    refine (makeAt_any ((-a - 1)) ((-h - 1)) am hm _ (by omega) (by omega) H.out.tb Eam Ehm).mono ?_
    rintro _ _ ⟨rfl, hb⟩
    replace H := Lib.hid (H.out.go hb)
    clear hb
    go_wp2_with (first
        | go_skip)
    refine (makeAt_any (a) ((-h - 1)) ap hm _ (by omega) (by omega) H.out.tb Eap Ehm).mono ?_
    rintro _ _ ⟨rfl, hb⟩
    replace H := Lib.hid (H.out.go hb)
    clear hb
    go_wp2_with (first
        | go_skip)
    refine (makeAt_any ((a + 1)) (-h) aq hn _ (by omega) (by omega) H.out.tb Eaq Ehn).mono ?_
    rintro _ _ ⟨rfl, hb⟩
    replace H := Lib.hid (H.out.go hb)
    clear hb
    go_wp2_with (first
        | go_skip)
    refine (makeAt_any ((a + 1)) (h) aq hp _ (by omega) (by omega) H.out.tb Eaq Ehp).mono ?_
    rintro _ _ ⟨rfl, hb⟩
    replace H := Lib.hid (H.out.go hb)
    clear hb
    go_wp2_with (first
        | go_skip)
    refine (makeAt_any ((-a - 1)) (h) am hp _ (by omega) (by omega) H.out.tb Eam Ehp).mono ?_
    rintro _ _ ⟨rfl, hb⟩
    replace H := Lib.hid (H.out.go hb)
    clear hb
    go_wp2_with (first
        | ((with_reducible refine isSlice ?_); refine wpList_sliceH H 31 (vecC [(am, hm), (ap, hm), (aq, hn), (aq, hp), (am, hp)]) 5 rfl rfl (by intro W; kernel_rfl) ?_; clear H; intro _ _ H; (simp only [Act.put, List.setIfInBounds_toArray, List.set_cons_succ, List.set_cons_zero])))
    go_ret
    exact ⟨_, _, rfl, H.out⟩
  have c3 : S.s2.nx 4 = 3 := by omega
  have L1 := L0.2.2.2 c3
  clear L0
  clear c0 c1 c2
  obtain ⟨an, Ean⟩ : ∃ z : Rat, Hid (ofQ (-a) 4 = z) := ⟨_, rfl⟩
  obtain ⟨zz, Ezz⟩ : ∃ z : Rat, Hid (ofQ 0 4 = z) := ⟨_, rfl⟩
  obtain ⟨hn, Ehn⟩ : ∃ z : Rat, Hid (ofQ (-h) 4 = z) := ⟨_, rfl⟩
  obtain ⟨ap, Eap⟩ : ∃ z : Rat, Hid (ofQ a 4 = z) := ⟨_, rfl⟩
  obtain ⟨hp, Ehp⟩ : ∃ z : Rat, Hid (ofQ h 4 = z) := ⟨_, rfl⟩
  rw [Ean.out, Ezz.out, Ehn.out, Eap.out, Ehp.out] at L1
  rw [L1]
  clear L1
  go_enter Tryd.func64, Tryd.ntmps64
  go_wp2_with (first
      | go_skip)
  refine (nextH_any S g 6 H hS U1 (by decide) (by decide)).mono ?_
  rintro _ _ ⟨rfl, H2⟩
  replace H := Lib.hid H2
  clear H2
  go_wp2_with (first
      | go_skip)
  refine (nextH_any S.sn g 6 H HS1 U2 (by decide) (by decide)).mono ?_
  rintro _ _ ⟨rfl, H2⟩
  replace H := Lib.hid H2
  clear H2
  go_wp2_with (first
      | go_skip)
  refine (nextH_any S.s2 g 4 H HS2 U3 (by decide) (by decide)).mono ?_
  rintro _ _ ⟨rfl, H2⟩
  replace H := Lib.hid H2
  clear H2
  go_wp2_with (first
      | go_skip)
  refine (makeAt_any (-a) (0) an zz _ (by omega) (by omega) H.out.tb Ean Ezz).mono ?_
  rintro _ _ ⟨rfl, hb⟩
  replace H := Lib.hid (H.out.go hb)
  clear hb
  go_wp2_with (first
      | go_skip)
  refine (makeAt_any (0) (-h) zz hn _ (by omega) (by omega) H.out.tb Ezz Ehn).mono ?_
  rintro _ _ ⟨rfl, hb⟩
  replace H := Lib.hid (H.out.go hb)
  clear hb
  go_wp2_with (first
      | go_skip)
  refine (makeAt_any (a) (0) ap zz _ (by omega) (by omega) H.out.tb Eap Ezz).mono ?_
  rintro _ _ ⟨rfl, hb⟩
  replace H := Lib.hid (H.out.go hb)
  clear hb
  go_wp2_with (first
      | go_skip)
  refine (makeAt_any (0) (h) zz hp _ (by omega) (by omega) H.out.tb Ezz Ehp).mono ?_
  rintro _ _ ⟨rfl, hb⟩
  replace H := Lib.hid (H.out.go hb)
  clear hb
  go_wp2_with (first
      | ((with_reducible refine isSlice ?_); refine wpList_sliceH H 31 (vecC [(an, zz), (zz, hn), (ap, zz), (zz, hp)]) 4 rfl rfl (by intro W; kernel_rfl) ?_; clear H; intro _ _ H; (simp only [Act.put, List.setIfInBounds_toArray, List.set_cons_succ, List.set_cons_zero])))
  go_ret
  exact ⟨_, _, rfl, H.out⟩
end Go.Proofs.YtolekonocbeekaaDoor

namespace Go.Proofs.YtolekonocbeekaaDoor
open Go.RowKit
set_option linter.unusedVariables false
set_option maxRecDepth 100000

set_option maxHeartbeats 4000000 in
theorem Poly_any (S : Sd) (w : World) (hS : S.ok w) (hT : Tb w) :
    Calls Tryd.prog 26 #[.slice S.A S.xs.length S.c] w fun e w' => ∃ b, e = .returned (.slice (some ⟨b, 0, none⟩) (polyL S).length (polyL S).length) ∧ w.heap.size ≤ b ∧ Blk w' b 31 (vecC (polyL S)).toArray ∧ Below w.heap.size w w' := by
  have H := Lib.hid (Hp.start hT)
  have HS0 := Lib.hid hS
  clear hT hS
  go_enter Tryd.func26, Tryd.ntmps26
  go_wp2_with (first
      | ((with_reducible refine isBox ?_); refine bxA H ?_; clear H; intro _ _ H))
  refine (poly_any S _ H HS0 (by (repeat (first | exact List.Mem.head _ | refine List.Mem.tail _ ?_ | assumption)))).mono ?_
  rintro _ _ ⟨b, m2, rfl, H2⟩
  replace H := Lib.hid H2
  clear H2
  go_wp2_with (first
      | go_skip)
  go_ret
  exact ⟨_, rfl, (H.out.blk _ (.head _)).1, (H.out.blk _ (.head _)).2, H.out.bel⟩
end Go.Proofs.YtolekonocbeekaaDoor

namespace Go.Proofs.YtolekonocbeekaaDoor
open Go.RowKit
set_option linter.unusedVariables false
set_option maxRecDepth 100000

/-- The box of a point, of the first points of a list. -/
def tE (p1 q1 p2 q2 p3 q3 : Rat) (v : Rat × Rat) (t1 t2 t3 t4 : Rat) : Prop := ptXL p1 p3 q3 v.1 v.2 = t1 ∧ ptYL p2 p3 q3 v.1 v.2 = t2 ∧ ptXH q1 p3 q3 v.1 v.2 = t3 ∧ ptYH q2 p3 q3 v.1 v.2 = t4
def shP (p1 q1 p2 q2 p3 q3 : Rat) (v0 : Rat × Rat) (vs : List (Rat × Rat)) (m : Nat) (r1 r2 r3 r4 : Rat) : Prop :=
  arL (ptXL p1 p3 q3 v0.1 v0.2) ((vs.map fun v => ptXL p1 p3 q3 v.1 v.2).take m) = r1 ∧ arL (ptYL p2 p3 q3 v0.1 v0.2) ((vs.map fun v => ptYL p2 p3 q3 v.1 v.2).take m) = r2 ∧ arH (ptXH q1 p3 q3 v0.1 v0.2) ((vs.map fun v => ptXH q1 p3 q3 v.1 v.2).take m) = r3 ∧ arH (ptYH q2 p3 q3 v0.1 v0.2) ((vs.map fun v => ptYH q2 p3 q3 v.1 v.2).take m) = r4
section
variable {p1 q1 p2 q2 p3 q3 : Rat} {v0 v : Rat × Rat} {vs : List (Rat × Rat)} {m : Nat} {r1 r2 r3 r4 t1 t2 t3 t4 y1 y2 y3 y4 : Rat}
theorem shP.zero (hv : (v0 :: vs)[0]? = some v) (h : tE p1 q1 p2 q2 p3 q3 v t1 t2 t3 t4) : shP p1 q1 p2 q2 p3 q3 v0 vs 0 t1 t2 t3 t4 := by
  have e : v0 = v := by simpa using hv
  subst e
  obtain ⟨h1, h2, h3, h4⟩ := h
  exact ⟨h1, h2, h3, h4⟩
theorem shP.succ (h : shP p1 q1 p2 q2 p3 q3 v0 vs m r1 r2 r3 r4) (hv : (v0 :: vs)[m + 1]? = some v) (ht : tE p1 q1 p2 q2 p3 q3 v t1 t2 t3 t4) (h1 : mn r1 t1 = y1) (h2 : mn r2 t2 = y2) (h3 : mx r3 t3 = y3) (h4 : mx r4 t4 = y4) : shP p1 q1 p2 q2 p3 q3 v0 vs (m + 1) y1 y2 y3 y4 := by
  have hm : vs[m]? = some v := by simpa using hv
  obtain ⟨a1, a2, a3, a4⟩ := h
  obtain ⟨b1, b2, b3, b4⟩ := ht
  refine ⟨?_, ?_, ?_, ?_⟩
  · rw [(ar_snoc (y := t1) (by rw [List.getElem?_map, hm, ← b1]; rfl)).1, a1, h1]
  · rw [(ar_snoc (y := t2) (by rw [List.getElem?_map, hm, ← b2]; rfl)).1, a2, h2]
  · rw [(ar_snoc (y := t3) (by rw [List.getElem?_map, hm, ← b3]; rfl)).2, a3, h3]
  · rw [(ar_snoc (y := t4) (by rw [List.getElem?_map, hm, ← b4]; rfl)).2, a4, h4]
theorem shP.last (h : shP p1 q1 p2 q2 p3 q3 v0 vs m r1 r2 r3 r4) (hm : vs.length ≤ m) : arL (ptXL p1 p3 q3 v0.1 v0.2) (vs.map fun v => ptXL p1 p3 q3 v.1 v.2) = r1 ∧ arL (ptYL p2 p3 q3 v0.1 v0.2) (vs.map fun v => ptYL p2 p3 q3 v.1 v.2) = r2 ∧ arH (ptXH q1 p3 q3 v0.1 v0.2) (vs.map fun v => ptXH q1 p3 q3 v.1 v.2) = r3 ∧ arH (ptYH q2 p3 q3 v0.1 v0.2) (vs.map fun v => ptYH q2 p3 q3 v.1 v.2) = r4 := by
  unfold shP at h
  rwa [List.take_of_length_le (by simpa using hm), List.take_of_length_le (by simpa using hm), List.take_of_length_le (by simpa using hm), List.take_of_length_le (by simpa using hm)] at h
theorem shP.full (h1 : arL (ptXL p1 p3 q3 v0.1 v0.2) (vs.map fun v => ptXL p1 p3 q3 v.1 v.2) = r1) (h2 : arL (ptYL p2 p3 q3 v0.1 v0.2) (vs.map fun v => ptYL p2 p3 q3 v.1 v.2) = r2) (h3 : arH (ptXH q1 p3 q3 v0.1 v0.2) (vs.map fun v => ptXH q1 p3 q3 v.1 v.2) = r3) (h4 : arH (ptYH q2 p3 q3 v0.1 v0.2) (vs.map fun v => ptYH q2 p3 q3 v.1 v.2) = r4) : shP p1 q1 p2 q2 p3 q3 v0 vs vs.length r1 r2 r3 r4 := by
  unfold shP
  rw [List.take_of_length_le (by simp), List.take_of_length_le (by simp), List.take_of_length_le (by simp), List.take_of_length_le (by simp)]
  exact ⟨h1, h2, h3, h4⟩
theorem shP.inb {x y t : Rat} (h : shP p1 q1 p2 q2 p3 q3 v0 vs vs.length r1 r2 r3 r4) (hv : v ∈ v0 :: vs) (hx : p1 ≤ x ∧ x ≤ q1) (hy : p2 ≤ y ∧ y ≤ q2) (ht : p3 ≤ t ∧ t ≤ q3) : (r1 ≤ x + rotX t v.1 v.2 ∧ x + rotX t v.1 v.2 ≤ r3) ∧ (r2 ≤ y + rotY t v.1 v.2 ∧ y + rotY t v.1 v.2 ≤ r4) := by
  obtain ⟨h1, h2, h3, h4⟩ := h.last (Nat.le_refl _)
  have hp := pt_in (x := v.1) (y := v.2) hx hy ht
  have key : ∀ f : Rat × Rat → Rat, f v ∈ f v0 :: vs.map f := fun f => by
    rcases List.mem_cons.1 hv with rfl | hv
    · exact .head _
    · exact .tail _ (List.mem_map.2 ⟨v, hv, rfl⟩)
  refine ⟨⟨?_, ?_⟩, ?_, ?_⟩
  · exact Rat.le_trans (h1 ▸ arL_le (key fun v => ptXL p1 p3 q3 v.1 v.2)) hp.1.1
  · exact Rat.le_trans hp.1.2 (h3 ▸ le_arH (key fun v => ptXH q1 p3 q3 v.1 v.2))
  · exact Rat.le_trans (h2 ▸ arL_le (key fun v => ptYL p2 p3 q3 v.1 v.2)) hp.2.1
  · exact Rat.le_trans hp.2.2 (h4 ▸ le_arH (key fun v => ptYH q2 p3 q3 v.1 v.2))
theorem shP.sz {i j k : Nat} {a1 b1 a2 b2 a3 b3 : Option Rat} (h : shP p1 q1 p2 q2 p3 q3 v0 vs m r1 r2 r3 r4) (A1 : Spn i a1 b1 p1 q1) (A2 : Spn i a2 b2 p2 q2) (A3 : Spn j a3 b3 p3 q3) (Z : ∀ v ∈ v0 :: vs, Sz k v.1 ∧ Sz k v.2) (hk : i + 8 * j + 2 * k + 30 ≤ 10000) : Sz (i + 8 * j + 2 * k + 30) r1 ∧ Sz (i + 8 * j + 2 * k + 30) r2 ∧ Sz (i + 8 * j + 2 * k + 30) r3 ∧ Sz (i + 8 * j + 2 * k + 30) r4 := by
  obtain ⟨a1, a2, a3, a4⟩ := h
  have key : ∀ f : Rat × Rat → Rat, (∀ v ∈ v0 :: vs, Sz (i + 8 * j + 2 * k + 30) (f v)) → ∀ y ∈ f v0 :: (vs.map f).take m, Sz (i + 8 * j + 2 * k + 30) y := fun f hf y hy => by
    rcases List.mem_cons.1 hy with rfl | hy
    · exact hf v0 (.head _)
    · obtain ⟨v, hv, rfl⟩ := List.mem_map.1 (List.mem_of_mem_take hy)
      exact hf v (.tail _ hv)
  have ps := fun v hv => pt_sz A1 A2 A3 (Z v hv).1 (Z v hv).2 hk
  refine ⟨?_, ?_, ?_, ?_⟩
  · rw [← a1]; exact (sz_ar (key (fun v => ptXL p1 p3 q3 v.1 v.2) fun v hv => (ps v hv).1)).1
  · rw [← a2]; exact (sz_ar (key (fun v => ptYL p2 p3 q3 v.1 v.2) fun v hv => (ps v hv).2.2.1)).1
  · rw [← a3]; exact (sz_ar (key (fun v => ptXH q1 p3 q3 v.1 v.2) fun v hv => (ps v hv).2.1)).2
  · rw [← a4]; exact (sz_ar (key (fun v => ptYH q2 p3 q3 v.1 v.2) fun v hv => (ps v hv).2.2.2)).2
end
set_option maxHeartbeats 4000000 in
theorem Shape_any {i j k : Nat} (a1 b1 : Option Rat) (p1 q1 : Rat) (a2 b2 : Option Rat) (p2 q2 : Rat) (a3 b3 : Option Rat) (p3 q3 : Rat) (v0 : Rat × Rat) (vs : List (Rat × Rat)) (n c : Nat) (T : TypeId) (xl yl xh yh : Rat) (w : World) (hk : i + 8 * j + 2 * k ≤ 4000 ∧ j ≤ 300) (A1 : Hid (Spn i a1 b1 p1 q1)) (A2 : Hid (Spn i a2 b2 p2 q2)) (A3 : Hid (Spn j a3 b3 p3 q3)) (N : Hid (vs.length + 1 = n)) (hn9 : n < 1000000) (Z : Hid (∀ v ∈ v0 :: vs, Sz k v.1 ∧ Sz k v.2)) (X : Hid (Blk w c T (vecC (v0 :: vs)).toArray)) (Fxl : Hid (arL (ptXL p1 p3 q3 v0.1 v0.2) (vs.map (fun v : Rat × Rat => ptXL p1 p3 q3 v.1 v.2)) = xl)) (Fyl : Hid (arL (ptYL p2 p3 q3 v0.1 v0.2) (vs.map (fun v : Rat × Rat => ptYL p2 p3 q3 v.1 v.2)) = yl)) (Fxh : Hid (arH (ptXH q1 p3 q3 v0.1 v0.2) (vs.map (fun v : Rat × Rat => ptXH q1 p3 q3 v.1 v.2)) = xh)) (Fyh : Hid (arH (ptYH q2 p3 q3 v0.1 v0.2) (vs.map (fun v : Rat × Rat => ptYH q2 p3 q3 v.1 v.2)) = yh)) (hT : Tb w) :
    Calls Tryd.prog 27 #[.agg #[.bool (sgO a1), .string (nuO a1), .string (deO a1), .bool (sgO b1), .string (nuO b1), .string (deO b1), .bool (sgO a2), .string (nuO a2), .string (deO a2), .bool (sgO b2), .string (nuO b2), .string (deO b2), .bool (sgO a3), .string (nuO a3), .string (deO a3), .bool (sgO b3), .string (nuO b3), .string (deO b3)], .slice (some ⟨c, 0, none⟩) n n] w fun e w' => e = .returned (.agg #[.bool (sgO (some xl)), .string (nuO (some xl)), .string (deO (some xl)), .bool (sgO (some yl)), .string (nuO (some yl)), .string (deO (some yl)), .bool (sgO (some xh)), .string (nuO (some xh)), .string (deO (some xh)), .bool (sgO (some yh)), .string (nuO (some yh)), .string (deO (some yh))]) ∧ Below w.heap.size w w' := by
  have H := Lib.hid (Hp.start hT)
  clear hT
  have Zp1 : Hid (Sz i p1) := A1.out.zp
  have Sp1 : Hid (SmO (some p1)) := Sz.o Zp1 (by omega)
  have Zq1 : Hid (Sz i q1) := A1.out.zq
  have Sq1 : Hid (SmO (some q1)) := Sz.o Zq1 (by omega)
  have Zp2 : Hid (Sz i p2) := A2.out.zp
  have Sp2 : Hid (SmO (some p2)) := Sz.o Zp2 (by omega)
  have Zq2 : Hid (Sz i q2) := A2.out.zq
  have Sq2 : Hid (SmO (some q2)) := Sz.o Zq2 (by omega)
  have Zp3 : Hid (Sz j p3) := A3.out.zp
  have Sp3 : Hid (SmO (some p3)) := Sz.o Zp3 (by omega)
  have Zq3 : Hid (Sz j q3) := A3.out.zq
  have Sq3 : Hid (SmO (some q3)) := Sz.o Zq3 (by omega)
  go_enter Tryd.func27, Tryd.ntmps27
  go_wp2_with (first
      | ((with_reducible refine isBox ?_); refine bxA H ?_; clear H; intro _ _ H)
      | ((with_reducible refine isAlloc ?_); refine alA H ?_; clear H; intro _ _ H))
  rename_i g1 V1 g2 V2 g3 V3 K7 hK7
  go_loopw [11] (fun i_ wr => ∃ m : Nat, i_ = .int .i64 m ∧ m ≤ n ∧ ((m = 0 ∧ Hid (Hp w wr [(g3, 57, [.bool false, .string ⟨#[]⟩, .string ⟨#[]⟩, .bool false, .string ⟨#[]⟩, .string ⟨#[]⟩, .bool false, .string ⟨#[]⟩, .string ⟨#[]⟩, .bool false, .string ⟨#[]⟩, .string ⟨#[]⟩]), (g2, 57, [.bool false, .string ⟨#[]⟩, .string ⟨#[]⟩, .bool false, .string ⟨#[]⟩, .string ⟨#[]⟩, .bool false, .string ⟨#[]⟩, .string ⟨#[]⟩, .bool false, .string ⟨#[]⟩, .string ⟨#[]⟩]), (g1, 28, [.bool (sgO a1), .string (nuO a1), .string (deO a1), .bool (sgO b1), .string (nuO b1), .string (deO b1), .bool (sgO a2), .string (nuO a2), .string (deO a2), .bool (sgO b2), .string (nuO b2), .string (deO b2), .bool (sgO a3), .string (nuO a3), .string (deO a3), .bool (sgO b3), .string (nuO b3), .string (deO b3)])])) ∨ (∃ (m2 : Nat) (r1 r2 r3 r4 : Rat), m = m2 + 1 ∧ Hid (shP p1 q1 p2 q2 p3 q3 v0 vs m2 r1 r2 r3 r4) ∧ Hid (Hp w wr [(g3, 57, [.bool (sgO (some r1)), .string (nuO (some r1)), .string (deO (some r1)), .bool (sgO (some r2)), .string (nuO (some r2)), .string (deO (some r2)), .bool (sgO (some r3)), .string (nuO (some r3)), .string (deO (some r3)), .bool (sgO (some r4)), .string (nuO (some r4)), .string (deO (some r4))]), (g2, 57, [.bool false, .string ⟨#[]⟩, .string ⟨#[]⟩, .bool false, .string ⟨#[]⟩, .string ⟨#[]⟩, .bool false, .string ⟨#[]⟩, .string ⟨#[]⟩, .bool false, .string ⟨#[]⟩, .string ⟨#[]⟩]), (g1, 28, [.bool (sgO a1), .string (nuO a1), .string (deO a1), .bool (sgO b1), .string (nuO b1), .string (deO b1), .bool (sgO a2), .string (nuO a2), .string (deO a2), .bool (sgO b2), .string (nuO b2), .string (deO b2), .bool (sgO a3), .string (nuO a3), .string (deO a3), .bool (sgO b3), .string (nuO b3), .string (deO b3)])])))) (fun i_ _ => n - (intOf i_).toNat)
  case atStart => exact ⟨0, rfl, by omega, .inl ⟨rfl, H⟩⟩
  case round =>
    clear H
    obtain ⟨m, rfl, hm, hcase⟩ := hrel
    by_cases hlt : m < n
    · obtain ⟨v, hv⟩ : ∃ v, (v0 :: vs)[m]? = some v := ⟨_, List.getElem?_eq_getElem (by have := N.out; simp only [List.length_cons]; omega)⟩
      have HV := Lib.hid hv
      have ZV := Z.out v (List.mem_of_getElem? hv)
      have Zx : Hid (SzO k (some v.1)) := ZV.1
      have Zy : Hid (SzO k (some v.2)) := ZV.2
      have PS := pt_sz A1.out A2.out A3.out ZV.1 ZV.2 (by omega)
      obtain ⟨t1, Et1⟩ : ∃ z : Rat, Hid (ptXL p1 p3 q3 (valO (some v.1)) (valO (some v.2)) = z) := ⟨_, rfl⟩
      obtain ⟨t3, Et3⟩ : ∃ z : Rat, Hid (ptXH q1 p3 q3 (valO (some v.1)) (valO (some v.2)) = z) := ⟨_, rfl⟩
      obtain ⟨t2, Et2⟩ : ∃ z : Rat, Hid (ptYL p2 p3 q3 (valO (some v.1)) (valO (some v.2)) = z) := ⟨_, rfl⟩
      obtain ⟨t4, Et4⟩ : ∃ z : Rat, Hid (ptYH q2 p3 q3 (valO (some v.1)) (valO (some v.2)) = z) := ⟨_, rfl⟩
      rw [show ptXL p1 p3 q3 v.1 v.2 = t1 from Et1.out, show ptXH q1 p3 q3 v.1 v.2 = t3 from Et3.out, show ptYL p2 p3 q3 v.1 v.2 = t2 from Et2.out, show ptYH q2 p3 q3 v.1 v.2 = t4 from Et4.out] at PS
      have Zt1 : Hid (Sz (i + 8 * j + 2 * k + 30) t1) := PS.1
      have St1 : Hid (SmO (some t1)) := Sz.o Zt1 (by omega)
      have Zt3 : Hid (Sz (i + 8 * j + 2 * k + 30) t3) := PS.2.1
      have St3 : Hid (SmO (some t3)) := Sz.o Zt3 (by omega)
      have Zt2 : Hid (Sz (i + 8 * j + 2 * k + 30) t2) := PS.2.2.1
      have St2 : Hid (SmO (some t2)) := Sz.o Zt2 (by omega)
      have Zt4 : Hid (Sz (i + 8 * j + 2 * k + 30) t4) := PS.2.2.2
      have St4 : Hid (SmO (some t4)) := Sz.o Zt4 (by omega)
      have TE : tE p1 q1 p2 q2 p3 q3 v t1 t2 t3 t4 := ⟨Et1.out, Et2.out, Et3.out, Et4.out⟩
      have HT := Lib.hid TE
      clear hv ZV PS TE
      rcases hcase with ⟨rfl, H⟩ | ⟨m2, r1, r2, r3, r4, rfl, R, H⟩
      · go_wp2_with (first
            | go_skip
            | ((with_reducible refine isLoad ?_); refine ldV H X 0 HV ?_)
            | ((with_reducible refine isLoad ?_); refine ldA H ?_)
            | ((with_reducible refine isLoad ?_); refine ld1A H ?_)
            | ((with_reducible refine isStore ?_); refine stA H ?_; clear H; intro _ H)
            | ((with_reducible refine isStore ?_); refine st1A H ?_; clear H; intro _ H)
            | ((with_reducible refine isBox ?_); refine bxA H ?_; clear H; intro _ _ H)
            | ((with_reducible refine isAlloc ?_); refine alA H ?_; clear H; intro _ _ H))
        refine (Point_any (i := i) (j := j) (k := k) a1 b1 p1 q1 a2 b2 p2 q2 a3 b3 p3 q3 (some v.1) (some v.2) t1 t3 t2 t4 _ (by omega) A1 A2 A3 Zx Zy Et1 Et3 Et2 Et4 H.out.tb).mono ?_
        rintro _ _ ⟨rfl, hb⟩
        replace H := Lib.hid (H.out.go hb)
        clear hb
        go_wp2_with (first
            | ((with_reducible refine isLoad ?_); refine ldA H ?_)
            | ((with_reducible refine isStore ?_); refine stA H ?_; clear H; intro _ H)
            | ((with_reducible refine isAlloc ?_); refine alA H ?_; clear H; intro _ _ H))
        replace H := Lib.hid H.out.drop.drop
        go_roundw
        case rel => exact ⟨1, by go_num, by omega, .inr ⟨0, t1, t2, t3, t4, rfl, Lib.hid (shP.zero HV.out HT.out), H⟩⟩
        case measure => simp [intOf]; omega
      · have RZ := R.out.sz A1.out A2.out A3.out Z.out (by omega)
        have Sr1 : Hid (SmO (some r1)) := Sz.o RZ.1 (by omega)
        have Sr2 : Hid (SmO (some r2)) := Sz.o RZ.2.1 (by omega)
        have Sr3 : Hid (SmO (some r3)) := Sz.o RZ.2.2.1 (by omega)
        have Sr4 : Hid (SmO (some r4)) := Sz.o RZ.2.2.2 (by omega)
        obtain ⟨y1, Y1⟩ : ∃ z : Rat, Hid (mn r1 t1 = z) := ⟨_, rfl⟩
        obtain ⟨y2, Y2⟩ : ∃ z : Rat, Hid (mn r2 t2 = z) := ⟨_, rfl⟩
        obtain ⟨y3, Y3⟩ : ∃ z : Rat, Hid (mx r3 t3 = z) := ⟨_, rfl⟩
        obtain ⟨y4, Y4⟩ : ∃ z : Rat, Hid (mx r4 t4 = z) := ⟨_, rfl⟩
        clear RZ
        go_wp2_with (first
            | ((with_reducible refine isLoad ?_); refine ldV H X (m2 + 1) HV ?_)
            | ((with_reducible refine isLoad ?_); refine ldA H ?_)
            | ((with_reducible refine isStore ?_); refine stA H ?_; clear H; intro _ H)
            | ((with_reducible refine isAlloc ?_); refine alA H ?_; clear H; intro _ _ H))
        refine (Point_any (i := i) (j := j) (k := k) a1 b1 p1 q1 a2 b2 p2 q2 a3 b3 p3 q3 (some v.1) (some v.2) t1 t3 t2 t4 _ (by omega) A1 A2 A3 Zx Zy Et1 Et3 Et2 Et4 H.out.tb).mono ?_
        rintro _ _ ⟨rfl, hb⟩
        replace H := Lib.hid (H.out.go hb)
        clear hb
        go_wp2_with (first
            | ((with_reducible refine isStore ?_); refine stA H ?_; clear H; intro _ H)
            | ((with_reducible refine isAlloc ?_); refine alA H ?_; clear H; intro _ _ H))
        refine wp_region_T 16 H (by kernel_rfl) (by kernel_rfl) ?_
        simp only [List.take_succ_cons, List.take_zero, List.drop_succ_cons, List.drop_zero]
        repeat (first
            | ((with_reducible refine kLoad ?_); refine kldA H ?_)
            | ((fail_if_success (with_reducible refine kCall ?_)); (with_reducible refine kCons ?_); refine wpK_step (fun K hK => ?_); go_simp; refine hK _ ?_; clear hK K))
        refine wpK_step (fun K hK => ?_)
        go_simp
        apply Exists.intro
        refine ⟨fun sx => ?_, hK _ ?_⟩
        · go_at_call 65
          exact RMin_any (some r1) (some t1) y1 _ Sr1 St1 Y1 (H.out.tbx sx)
        clear hK K
        repeat (first
            | ((with_reducible refine kLoad ?_); refine kldA H ?_)
            | ((fail_if_success (with_reducible refine kCall ?_)); (with_reducible refine kCons ?_); refine wpK_step (fun K hK => ?_); go_simp; refine hK _ ?_; clear hK K))
        refine wpK_step (fun K hK => ?_)
        go_simp
        apply Exists.intro
        refine ⟨fun sx => ?_, hK _ ?_⟩
        · go_at_call 65
          exact RMin_any (some r2) (some t2) y2 _ Sr2 St2 Y2 (H.out.tbx sx)
        clear hK K
        repeat (first
            | ((fail_if_success (with_reducible refine kCall ?_)); (with_reducible refine kCons ?_); refine wpK_step (fun K hK => ?_); go_simp; refine hK _ ?_; clear hK K))
        refine wpKeep_nil ?_
        clear H
        intro _ H
        go_wp2_with (first
            | ((with_reducible refine isStore ?_); refine stA H ?_; clear H; intro _ H))
        refine wp_region_T 16 H (by kernel_rfl) (by kernel_rfl) ?_
        simp only [List.take_succ_cons, List.take_zero, List.drop_succ_cons, List.drop_zero]
        repeat (first
            | ((with_reducible refine kLoad ?_); refine kldA H ?_)
            | ((fail_if_success (with_reducible refine kCall ?_)); (with_reducible refine kCons ?_); refine wpK_step (fun K hK => ?_); go_simp; refine hK _ ?_; clear hK K))
        refine wpK_step (fun K hK => ?_)
        go_simp
        apply Exists.intro
        refine ⟨fun sx => ?_, hK _ ?_⟩
        · go_at_call 57
          exact RMax_any (some r3) (some t3) y3 _ Sr3 St3 Y3 (H.out.tbx sx)
        clear hK K
        repeat (first
            | ((with_reducible refine kLoad ?_); refine kldA H ?_)
            | ((fail_if_success (with_reducible refine kCall ?_)); (with_reducible refine kCons ?_); refine wpK_step (fun K hK => ?_); go_simp; refine hK _ ?_; clear hK K))
        refine wpK_step (fun K hK => ?_)
        go_simp
        apply Exists.intro
        refine ⟨fun sx => ?_, hK _ ?_⟩
        · go_at_call 57
          exact RMax_any (some r4) (some t4) y4 _ Sr4 St4 Y4 (H.out.tbx sx)
        clear hK K
        repeat (first
            | ((fail_if_success (with_reducible refine kCall ?_)); (with_reducible refine kCons ?_); refine wpK_step (fun K hK => ?_); go_simp; refine hK _ ?_; clear hK K))
        refine wpKeep_nil ?_
        clear H
        intro _ H
        go_wp2_with (first
            | ((with_reducible refine isStore ?_); refine stA H ?_; clear H; intro _ H))
        replace H := Lib.hid H.out.drop.drop
        go_roundw
        case rel => exact ⟨m2 + 1 + 1, by go_num, by omega, .inr ⟨m2 + 1, y1, y2, y3, y4, rfl, Lib.hid (shP.succ R.out HV.out HT.out Y1.out Y2.out Y3.out Y4.out), H⟩⟩
        case measure => simp [intOf]; omega
    · have hmn : m = n := by omega
      subst hmn
      rcases hcase with ⟨h0, H⟩ | ⟨m2, r1, r2, r3, r4, h0, R, H⟩
      · exact absurd h0 (by have := N.out; omega)
      · obtain ⟨e1, e2, e3, e4⟩ := R.out.last (by have := N.out; omega)
        rw [Fxl.out] at e1
        rw [Fyl.out] at e2
        rw [Fxh.out] at e3
        rw [Fyh.out] at e4
        subst e1
        subst e2
        subst e3
        subst e4
        clear hlt h0
        go_wp2_with (first
            | ((with_reducible refine isLoad ?_); refine ldA H ?_)
            | ((with_reducible refine isStore ?_); refine stA H ?_; clear H; intro _ H))
        exact bodyPost_ret (results_H H Tryd.results27 (by (first | exact rRat | exact rSpan | exact rPose | exact rFrame | exact rVec | exact rTurn | exact rBox)) rfl (by (repeat (first | exact List.Mem.head _ | refine List.Mem.tail _ ?_ | assumption))) (by rfl)) rfl ⟨rfl, H.out.bel⟩
end Go.Proofs.YtolekonocbeekaaDoor
