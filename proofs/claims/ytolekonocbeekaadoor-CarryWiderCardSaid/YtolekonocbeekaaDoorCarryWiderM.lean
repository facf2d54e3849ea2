/- gantkeep4.CarryWider, the walk. Printed by gen/lawr6b.py. -/
import Derived.Test.YtolekonocbeekaaDoorMk18
import Derived.Test.YtolekonocbeekaaDoorMk17
import Derived.Test.YtolekonocbeekaaDoorMk16
namespace Go.Proofs.YtolekonocbeekaaDoor
open Go.RowKit
set_option linter.unusedVariables false
set_option maxRecDepth 100000

theorem ofQ_le8 {n m : Int} (h : n ≤ m) : ofQ n 8 ≤ ofQ m 8 := by
  rw [ofQ_div, ofQ_div]
  have e4 : (((8 : Nat) : Int) : Rat) = 8 := rfl
  rw [e4]
  have : (n : Rat) ≤ (m : Rat) := by exact_mod_cast h
  grind
theorem zero_sub_ (a : Rat) : a - ((0 : Int) : Rat) = a := by have e : ((0 : Int) : Rat) = 0 := rfl; grind
theorem zero_add_ (a : Rat) : a + ((0 : Int) : Rat) = a := by have e : ((0 : Int) : Rat) = 0 := rfl; grind
theorem widP_zero (p : Ps) : widP ((0 : Int) : Rat) ((0 : Int) : Rat) p = p := by
  unfold widP
  simp only [zero_sub_, zero_add_]
theorem wid_mono {i k : Nat} {p : Ps} {h : Fr} {b c s : Rat} (hp : Pok i k p) (hbc : b ≤ c) (hb : 0 ≤ b) : (putP h (widP b s p)).sub (putP h (widP c s p)) := by
  have l1 := hp.s1.le
  have l2 := hp.s2.le
  exact put_mono (p := widP b s p) (q := widP c s p) (by show p.a1 - b ≤ p.b1 + b; grind) (by show p.a2 - b ≤ p.b2 + b; grind) (by show p.a1 - c ≤ p.a1 - b; grind) (by show p.b1 + b ≤ p.b1 + c; grind) (by show p.a2 - c ≤ p.a2 - b; grind) (by show p.b2 + b ≤ p.b2 + c; grind) rfl rfl
set_option maxHeartbeats 8000000 in
theorem carryWider_core (S1 : Sd) (S2 : Sd) (S3 : Sd) (b c : Int) (hb1 : -9223372036854775808 ≤ b) (hb2 : b ≤ 9223372036854775807) (hc1 : -9223372036854775808 ≤ c) (hc2 : c ≤ 9223372036854775807) (w : World) (hS1 : S1.ok w) (hS2 : S2.ok w) (hS3 : S3.ok w) (hT : Tb w) :
    Calls Tryd.prog 7 #[.slice S1.A S1.xs.length S1.c, .slice S2.A S2.xs.length S2.c, .slice S3.A S3.xs.length S3.c, .int .i64 b, .int .i64 c] w fun e w' => e = .returned (.bool true) ∧ Below w.heap.size w w' := by
  obtain ⟨a1, b1, a2, b2, a3, b3, P0, CP0⟩ := pose_ex S1 w hS1
  have CP := Lib.hid CP0
  clear CP0 hS1
  obtain ⟨x, y, t, Zx0, Zy0, Zt0, CG0⟩ := frame_ex S2 w hS2
  have CG := Lib.hid CG0
  have Zx : Hid (Sz 1 x) := Zx0
  have Zy : Hid (Sz 1 y) := Zy0
  have Zt : Hid (Sz 1 t) := Zt0
  clear CG0 Zx0 Zy0 Zt0 hS2
  obtain ⟨x2, y2, t2, Zx20, Zy20, Zt20, CH0⟩ := frame_ex S3 w hS3
  have CH := Lib.hid CH0
  have Zx2 : Hid (Sz 1 x2) := Zx20
  have Zy2 : Hid (Sz 1 y2) := Zy20
  have Zt2 : Hid (Sz 1 t2) := Zt20
  clear CH0 Zx20 Zy20 Zt20 hS3
  have A1 : Hid (Spn 2 (some a1) (some b1) a1 b1) := (P0.pok (by decide)).s1
  have A2 : Hid (Spn 2 (some a2) (some b2) a2 b2) := (P0.pok (by decide)).s2
  have A3 : Hid (Spn 2 (some a3) (some b3) a3 b3) := (P0.pok (by decide)).s3
  have P := Lib.hid P0
  clear P0
  have n1 := mod_bd b (show (0 : Int) < 9 by decide)
  have n2 := mod_bd c (show (0 : Int) < 9 by decide)
  obtain ⟨m1, M1⟩ : ∃ z : Int, Hid (b % 9 = z) := ⟨_, rfl⟩
  obtain ⟨m2, M2⟩ : ∃ z : Int, Hid (c % 9 = z) := ⟨_, rfl⟩
  rw [M1.out] at n1
  rw [M2.out] at n2
  obtain ⟨N1a, N1b⟩ := n1
  obtain ⟨N2a, N2b⟩ := n2
  have hw : IntKind.i64.wrap (m1 + m2) = m1 + m2 := IntWalk.i64_in _ (by omega)
  obtain ⟨e1, Ee1⟩ : ∃ z : Rat, Hid (ofQ m1 8 = z) := ⟨_, rfl⟩
  obtain ⟨e2, Ee2⟩ : ∃ z : Rat, Hid (ofQ (m1 + m2) 8 = z) := ⟨_, rfl⟩
  obtain ⟨e0, Ee0⟩ : ∃ z : Rat, Hid (((0 : Int) : Rat) = z) := ⟨_, rfl⟩
  have H1 : Hid (0 ≤ e1) := by rw [← Ee1.out]; exact ofQ_nn N1a (by decide)
  have H2 : Hid (0 ≤ e2) := by rw [← Ee2.out]; exact ofQ_nn (by omega) (by decide)
  have H0 : Hid (0 ≤ e0) := by rw [← Ee0.out]; exact Rat.le_refl
  have H12 : e1 ≤ e2 := by rw [← Ee1.out, ← Ee2.out]; exact ofQ_le8 (by omega)
  have Z1 : Hid (Sz 1 e1) := by rw [← Ee1.out]; exact ofQ_sz _ _ _ (by omega) (by decide) (by decide)
  have Z2 : Hid (Sz 1 e2) := by rw [← Ee2.out]; exact ofQ_sz _ _ _ (by omega) (by decide) (by decide)
  have Z0 : Hid (Sz 1 e0) := by rw [← Ee0.out]; exact Sz.zero
  cases G0 : tWide (-t) a3 b3 with
  | true =>
    have G : Hid (tWide (-(valO (some t))) a3 b3 = true) := G0
    clear G0 H12
    have H := Lib.hid (Hp.start hT)
    clear hT
    go_enter Tryd.func7, Tryd.ntmps7
    go_wp2_with (first
        | go_skip)
    refine ((CP.out _ H.out.bel H.out.tb)).mono ?_
    rintro _ _ ⟨rfl, hb⟩
    replace H := Lib.hid (H.out.go hb)
    clear hb
    go_wp2_with (first
        | go_skip)
    refine ((CG.out _ H.out.bel H.out.tb)).mono ?_
    rintro _ _ ⟨rfl, hb⟩
    replace H := Lib.hid (H.out.go hb)
    clear hb
    go_wp2_with (first
        | go_skip)
    refine ((CH.out _ H.out.bel H.out.tb)).mono ?_
    rintro _ _ ⟨rfl, hb⟩
    replace H := Lib.hid (H.out.go hb)
    clear hb
    go_wp2_with (first
        | ((with_reducible refine isStore ?_); refine stA H ?_; clear H; intro _ H)
        | ((with_reducible refine isAlloc ?_); refine alA H ?_; clear H; intro _ _ H))
    refine (belowQ_any b 9 m1 _ (by decide) hb1 hb2 (by decide) M1).mono ?_
    rintro _ _ ⟨rfl, hb⟩
    replace H := Lib.hid (H.out.go hb)
    clear hb
    go_wp2_with (first
        | go_skip)
    refine (ofQ_any m1 8 e1 _ (by omega) (by omega) (by decide) (by decide) Ee1).mono ?_
    rintro _ _ ⟨rfl, hb⟩
    replace H := Lib.hid (H.out.go hb)
    clear hb
    go_wp2_with (first
        | go_skip)
    refine (belowQ_any b 9 m1 _ (by decide) hb1 hb2 (by decide) M1).mono ?_
    rintro _ _ ⟨rfl, hb⟩
    replace H := Lib.hid (H.out.go hb)
    clear hb
    go_wp2_with (first
        | go_skip)
    refine (belowQ_any c 9 m2 _ (by decide) hc1 hc2 (by decide) M2).mono ?_
    rintro _ _ ⟨rfl, hb⟩
    replace H := Lib.hid (H.out.go hb)
    clear hb
    go_wp2_with (first
        | go_skip)
    refine (ofQ_any (m1 + m2) 8 e2 _ (by omega) (by omega) (by decide) (by decide) Ee2).mono ?_
    rintro _ _ ⟨rfl, hb⟩
    replace H := Lib.hid (H.out.go hb)
    clear hb
    go_wp2_with (first
        | ((with_reducible refine isSlice ?_); refine wpList_sliceH H 65 ([.bool (sgO (some x)), .string (nuO (some x)), .string (deO (some x)), .bool (sgO (some y)), .string (nuO (some y)), .string (deO (some y)), .bool false, .bool (sgO (some t)), .string (nuO (some t)), .string (deO (some t)), .bool (sgO (some x2)), .string (nuO (some x2)), .string (deO (some x2)), .bool (sgO (some y2)), .string (nuO (some y2)), .string (deO (some y2)), .bool false, .bool (sgO (some t2)), .string (nuO (some t2)), .string (deO (some t2))]) 1 rfl rfl (by intro W; kernel_rfl) ?_; clear H; intro _ _ H; (simp only [Act.put, List.setIfInBounds_toArray, List.set_cons_succ, List.set_cons_zero]))
        | ((with_reducible refine isLoad ?_); refine ldA H ?_)
        | ((with_reducible refine isStore ?_); refine stA H ?_; clear H; intro _ H)
        | ((with_reducible refine isAlloc ?_); refine alA H ?_; clear H; intro _ _ H))
    refine wp_region_G (vs := [.bool false, .string ⟨#[]⟩, .string ⟨#[]⟩, .bool false, .string ⟨#[]⟩, .string ⟨#[]⟩, .bool false, .string ⟨#[]⟩, .string ⟨#[]⟩, .bool false, .string ⟨#[]⟩, .string ⟨#[]⟩, .bool false, .string ⟨#[]⟩, .string ⟨#[]⟩, .bool false, .string ⟨#[]⟩, .string ⟨#[]⟩]) 8 H (by kernel_rfl) (by kernel_rfl) rfl rfl (by simp [Allocs, go_sem]; intro _ _; rfl) (by kernel_rfl) rfl rfl ?_
    simp only [List.take_succ_cons, List.take_zero, List.drop_succ_cons, List.drop_zero]
    repeat (first
        | ((with_reducible refine kLoad ?_); refine kldA H ?_)
        | ((fail_if_success (with_reducible refine kCall ?_)); (with_reducible refine kCons ?_); refine wpK_step (fun K hK => ?_); go_simp; refine hK _ ?_; clear hK K))
    refine wpK_step (fun K hK => ?_)
    go_simp
    apply Exists.intro
    refine ⟨fun sx => ?_, hK _ ?_⟩
    · go_at_call 35
      exact ROf_any 0 e0 _ (by decide) (by decide) Ee0 (H.out.tbx sx)
    clear hK K
    refine wpK_step (fun K hK => ?_)
    go_simp
    apply Exists.intro
    refine ⟨fun sx => ?_, hK _ ?_⟩
    · go_at_call 34
      exact Drift_wide1 (i := 2) (j := 1) (k := 2) a1 b1 a2 b2 a3 b3 (some x) (some y) (some t) (some x2) (some y2) (some t2) e1 e0 _ _ (by decide) A1 A2 A3 Zx Zy Zt Zx2 Zy2 Zt2 Z1 H1 Z0 H0 (H.out.getx sx (by (repeat (first | exact List.Mem.head _ | refine List.Mem.tail _ ?_ | assumption)))) G (H.out.tbx sx)
    clear hK K
    repeat (first
        | ((fail_if_success (with_reducible refine kCall ?_)); (with_reducible refine kCons ?_); refine wpK_step (fun K hK => ?_); go_simp; refine hK _ ?_; clear hK K))
    refine wpKeep_nil ?_
    intro _
    (simp only [Act.put, List.setIfInBounds_toArray, List.set_cons_succ, List.set_cons_zero])
    refine ⟨⟨⟨_, _, _, rfl, by (first | exact rRat | exact rSpan | exact rPose | exact rFrame | exact rVec | exact rTurn | exact rBox), rfl, rfl⟩, rfl, rfl, rfl, rfl⟩, ?_⟩
    clear H
    intro _ H
    go_wp2_with (first
        | go_skip)
    refine wp_region_G (vs := [.bool false, .string ⟨#[]⟩, .string ⟨#[]⟩, .bool false, .string ⟨#[]⟩, .string ⟨#[]⟩, .bool false, .string ⟨#[]⟩, .string ⟨#[]⟩, .bool false, .string ⟨#[]⟩, .string ⟨#[]⟩, .bool false, .string ⟨#[]⟩, .string ⟨#[]⟩, .bool false, .string ⟨#[]⟩, .string ⟨#[]⟩]) 8 H (by kernel_rfl) (by kernel_rfl) rfl rfl (by simp [Allocs, go_sem]; intro _ _; rfl) (by kernel_rfl) rfl rfl ?_
    simp only [List.take_succ_cons, List.take_zero, List.drop_succ_cons, List.drop_zero]
    repeat (first
        | ((with_reducible refine kLoad ?_); refine kldA H ?_)
        | ((fail_if_success (with_reducible refine kCall ?_)); (with_reducible refine kCons ?_); refine wpK_step (fun K hK => ?_); go_simp; refine hK _ ?_; clear hK K))
    refine wpK_step (fun K hK => ?_)
    go_simp
    apply Exists.intro
    refine ⟨fun sx => ?_, hK _ ?_⟩
    · go_at_call 35
      exact ROf_any 0 e0 _ (by decide) (by decide) Ee0 (H.out.tbx sx)
    clear hK K
    refine wpK_step (fun K hK => ?_)
    go_simp
    apply Exists.intro
    refine ⟨fun sx => ?_, hK _ ?_⟩
    · go_at_call 34
      exact Drift_wide1 (i := 2) (j := 1) (k := 2) a1 b1 a2 b2 a3 b3 (some x) (some y) (some t) (some x2) (some y2) (some t2) e2 e0 _ _ (by decide) A1 A2 A3 Zx Zy Zt Zx2 Zy2 Zt2 Z2 H2 Z0 H0 (H.out.getx sx (by (repeat (first | exact List.Mem.head _ | refine List.Mem.tail _ ?_ | assumption)))) G (H.out.tbx sx)
    clear hK K
    repeat (first
        | ((fail_if_success (with_reducible refine kCall ?_)); (with_reducible refine kCons ?_); refine wpK_step (fun K hK => ?_); go_simp; refine hK _ ?_; clear hK K))
    refine wpKeep_nil ?_
    intro _
    (simp only [Act.put, List.setIfInBounds_toArray, List.set_cons_succ, List.set_cons_zero])
    refine ⟨⟨⟨_, _, _, rfl, by (first | exact rRat | exact rSpan | exact rPose | exact rFrame | exact rVec | exact rTurn | exact rBox), rfl, rfl⟩, rfl, rfl, rfl, rfl⟩, ?_⟩
    clear H
    intro _ H
    go_wp2_with (first
        | go_skip)
    refine wp_region_G (vs := [.bool false, .string ⟨#[]⟩, .string ⟨#[]⟩, .bool false, .string ⟨#[]⟩, .string ⟨#[]⟩, .bool false, .string ⟨#[]⟩, .string ⟨#[]⟩, .bool false, .string ⟨#[]⟩, .string ⟨#[]⟩, .bool false, .string ⟨#[]⟩, .string ⟨#[]⟩, .bool false, .string ⟨#[]⟩, .string ⟨#[]⟩]) 8 H (by kernel_rfl) (by kernel_rfl) rfl rfl (by simp [Allocs, go_sem]; intro _ _; rfl) (by kernel_rfl) rfl rfl ?_
    simp only [List.take_succ_cons, List.take_zero, List.drop_succ_cons, List.drop_zero]
    repeat (first
        | ((with_reducible refine kLoad ?_); refine kldA H ?_)
        | ((fail_if_success (with_reducible refine kCall ?_)); (with_reducible refine kCons ?_); refine wpK_step (fun K hK => ?_); go_simp; refine hK _ ?_; clear hK K))
    refine wpK_step (fun K hK => ?_)
    go_simp
    apply Exists.intro
    refine ⟨fun sx => ?_, hK _ ?_⟩
    · go_at_call 35
      exact ROf_any 0 e0 _ (by decide) (by decide) Ee0 (H.out.tbx sx)
    clear hK K
    refine wpK_step (fun K hK => ?_)
    go_simp
    apply Exists.intro
    refine ⟨fun sx => ?_, hK _ ?_⟩
    · go_at_call 35
      exact ROf_any 0 e0 _ (by decide) (by decide) Ee0 (H.out.tbx sx)
    clear hK K
    refine wpK_step (fun K hK => ?_)
    go_simp
    apply Exists.intro
    refine ⟨fun sx => ?_, hK _ ?_⟩
    · go_at_call 34
      exact Drift_wide1 (i := 2) (j := 1) (k := 2) a1 b1 a2 b2 a3 b3 (some x) (some y) (some t) (some x2) (some y2) (some t2) e0 e0 _ _ (by decide) A1 A2 A3 Zx Zy Zt Zx2 Zy2 Zt2 Z0 H0 Z0 H0 (H.out.getx sx (by (repeat (first | exact List.Mem.head _ | refine List.Mem.tail _ ?_ | assumption)))) G (H.out.tbx sx)
    clear hK K
    repeat (first
        | ((fail_if_success (with_reducible refine kCall ?_)); (with_reducible refine kCons ?_); refine wpK_step (fun K hK => ?_); go_simp; refine hK _ ?_; clear hK K))
    refine wpKeep_nil ?_
    intro _
    (simp only [Act.put, List.setIfInBounds_toArray, List.set_cons_succ, List.set_cons_zero])
    refine ⟨⟨⟨_, _, _, rfl, by (first | exact rRat | exact rSpan | exact rPose | exact rFrame | exact rVec | exact rTurn | exact rBox), rfl, rfl⟩, rfl, rfl, rfl, rfl⟩, ?_⟩
    clear H
    intro _ H
    go_wp2_with (first
        | ((with_reducible refine isLoad ?_); refine ldA H ?_))
    refine (Carry_wide1 (i := 2) (j := 1) (k := 2) (some a1) (some b1) a1 b1 (some a2) (some b2) a2 b2 (some a3) (some b3) a3 b3 (some x) (some y) (some t) (some x2) (some y2) (some t2) _ (by decide) A1 A2 A3 Zx Zy Zt Zx2 Zy2 Zt2 G H.out.tb).mono ?_
    rintro _ _ ⟨rfl, hb⟩
    replace H := Lib.hid (H.out.go hb)
    clear hb
    go_wp2_with (first
        | ((with_reducible refine isStore ?_); refine stA H ?_; clear H; intro _ H)
        | ((with_reducible refine isAlloc ?_); refine alA H ?_; clear H; intro _ _ H))
    refine (carried_any _ H.out.tb).mono ?_
    rintro _ _ ⟨rfl, hb⟩
    replace H := Lib.hid (H.out.go hb)
    clear hb
    go_wp2_with (first
        | go_skip)
    go_ret
    exact ⟨rfl, H.out.bel⟩
  | false =>
    cases G20 : tWide t2 (tvQ (-t) a3) (tvQ (-t) b3) with
    | true =>
      have g1 : tWide t2 (tvQ (-t) a3 - e0) (tvQ (-t) b3 + e0) = true := by rw [← Ee0.out]; rw [zero_sub_, zero_add_]; exact G20
      have G4 : Hid (tWide (valO (some t2)) (tvQ (-(valO (some t))) a3 - e0) (tvQ (-(valO (some t))) b3 + e0) = true) := g1
      have G2 : Hid (tWide (valO (some t2)) (tvQ (-(valO (some t))) a3) (tvQ (-(valO (some t))) b3) = true) := G20
      clear g1 G20
      have G : Hid (tWide (-(valO (some t))) a3 b3 = false) := G0
      clear G0 H12
      have H := Lib.hid (Hp.start hT)
      clear hT
      go_enter Tryd.func7, Tryd.ntmps7
      go_wp2_with (first
          | go_skip)
      refine ((CP.out _ H.out.bel H.out.tb)).mono ?_
      rintro _ _ ⟨rfl, hb⟩
      replace H := Lib.hid (H.out.go hb)
      clear hb
      go_wp2_with (first
          | go_skip)
      refine ((CG.out _ H.out.bel H.out.tb)).mono ?_
      rintro _ _ ⟨rfl, hb⟩
      replace H := Lib.hid (H.out.go hb)
      clear hb
      go_wp2_with (first
          | go_skip)
      refine ((CH.out _ H.out.bel H.out.tb)).mono ?_
      rintro _ _ ⟨rfl, hb⟩
      replace H := Lib.hid (H.out.go hb)
      clear hb
      go_wp2_with (first
          | ((with_reducible refine isStore ?_); refine stA H ?_; clear H; intro _ H)
          | ((with_reducible refine isAlloc ?_); refine alA H ?_; clear H; intro _ _ H))
      refine (belowQ_any b 9 m1 _ (by decide) hb1 hb2 (by decide) M1).mono ?_
      rintro _ _ ⟨rfl, hb⟩
      replace H := Lib.hid (H.out.go hb)
      clear hb
      go_wp2_with (first
          | go_skip)
      refine (ofQ_any m1 8 e1 _ (by omega) (by omega) (by decide) (by decide) Ee1).mono ?_
      rintro _ _ ⟨rfl, hb⟩
      replace H := Lib.hid (H.out.go hb)
      clear hb
      go_wp2_with (first
          | go_skip)
      refine (belowQ_any b 9 m1 _ (by decide) hb1 hb2 (by decide) M1).mono ?_
      rintro _ _ ⟨rfl, hb⟩
      replace H := Lib.hid (H.out.go hb)
      clear hb
      go_wp2_with (first
          | go_skip)
      refine (belowQ_any c 9 m2 _ (by decide) hc1 hc2 (by decide) M2).mono ?_
      rintro _ _ ⟨rfl, hb⟩
      replace H := Lib.hid (H.out.go hb)
      clear hb
      go_wp2_with (first
          | go_skip)
      refine (ofQ_any (m1 + m2) 8 e2 _ (by omega) (by omega) (by decide) (by decide) Ee2).mono ?_
      rintro _ _ ⟨rfl, hb⟩
      replace H := Lib.hid (H.out.go hb)
      clear hb
      go_wp2_with (first
          | ((with_reducible refine isSlice ?_); refine wpList_sliceH H 65 ([.bool (sgO (some x)), .string (nuO (some x)), .string (deO (some x)), .bool (sgO (some y)), .string (nuO (some y)), .string (deO (some y)), .bool false, .bool (sgO (some t)), .string (nuO (some t)), .string (deO (some t)), .bool (sgO (some x2)), .string (nuO (some x2)), .string (deO (some x2)), .bool (sgO (some y2)), .string (nuO (some y2)), .string (deO (some y2)), .bool false, .bool (sgO (some t2)), .string (nuO (some t2)), .string (deO (some t2))]) 1 rfl rfl (by intro W; kernel_rfl) ?_; clear H; intro _ _ H; (simp only [Act.put, List.setIfInBounds_toArray, List.set_cons_succ, List.set_cons_zero]))
          | ((with_reducible refine isLoad ?_); refine ldA H ?_)
          | ((with_reducible refine isStore ?_); refine stA H ?_; clear H; intro _ H)
          | ((with_reducible refine isAlloc ?_); refine alA H ?_; clear H; intro _ _ H))
      refine wp_region_G (vs := [.bool false, .string ⟨#[]⟩, .string ⟨#[]⟩, .bool false, .string ⟨#[]⟩, .string ⟨#[]⟩, .bool false, .string ⟨#[]⟩, .string ⟨#[]⟩, .bool false, .string ⟨#[]⟩, .string ⟨#[]⟩, .bool false, .string ⟨#[]⟩, .string ⟨#[]⟩, .bool false, .string ⟨#[]⟩, .string ⟨#[]⟩]) 8 H (by kernel_rfl) (by kernel_rfl) rfl rfl (by simp [Allocs, go_sem]; intro _ _; rfl) (by kernel_rfl) rfl rfl ?_
      simp only [List.take_succ_cons, List.take_zero, List.drop_succ_cons, List.drop_zero]
      repeat (first
          | ((with_reducible refine kLoad ?_); refine kldA H ?_)
          | ((fail_if_success (with_reducible refine kCall ?_)); (with_reducible refine kCons ?_); refine wpK_step (fun K hK => ?_); go_simp; refine hK _ ?_; clear hK K))
      refine wpK_step (fun K hK => ?_)
      go_simp
      apply Exists.intro
      refine ⟨fun sx => ?_, hK _ ?_⟩
      · go_at_call 35
        exact ROf_any 0 e0 _ (by decide) (by decide) Ee0 (H.out.tbx sx)
      clear hK K
      refine wpK_step (fun K hK => ?_)
      go_simp
      apply Exists.intro
      refine ⟨fun sx => ?_, hK _ ?_⟩
      · go_at_call 34
        exact Drift_wide2 (i := 2) (j := 1) (k := 2) a1 b1 a2 b2 a3 b3 (some x) (some y) (some t) (some x2) (some y2) (some t2) e1 e0 _ _ (by decide) A1 A2 A3 Zx Zy Zt Zx2 Zy2 Zt2 Z1 H1 Z0 H0 (H.out.getx sx (by (repeat (first | exact List.Mem.head _ | refine List.Mem.tail _ ?_ | assumption)))) G G4 (H.out.tbx sx)
      clear hK K
      repeat (first
          | ((fail_if_success (with_reducible refine kCall ?_)); (with_reducible refine kCons ?_); refine wpK_step (fun K hK => ?_); go_simp; refine hK _ ?_; clear hK K))
      refine wpKeep_nil ?_
      intro _
      (simp only [Act.put, List.setIfInBounds_toArray, List.set_cons_succ, List.set_cons_zero])
      refine ⟨⟨⟨_, _, _, rfl, by (first | exact rRat | exact rSpan | exact rPose | exact rFrame | exact rVec | exact rTurn | exact rBox), rfl, rfl⟩, rfl, rfl, rfl, rfl⟩, ?_⟩
      clear H
      intro _ H
      go_wp2_with (first
          | go_skip)
      refine wp_region_G (vs := [.bool false, .string ⟨#[]⟩, .string ⟨#[]⟩, .bool false, .string ⟨#[]⟩, .string ⟨#[]⟩, .bool false, .string ⟨#[]⟩, .string ⟨#[]⟩, .bool false, .string ⟨#[]⟩, .string ⟨#[]⟩, .bool false, .string ⟨#[]⟩, .string ⟨#[]⟩, .bool false, .string ⟨#[]⟩, .string ⟨#[]⟩]) 8 H (by kernel_rfl) (by kernel_rfl) rfl rfl (by simp [Allocs, go_sem]; intro _ _; rfl) (by kernel_rfl) rfl rfl ?_
      simp only [List.take_succ_cons, List.take_zero, List.drop_succ_cons, List.drop_zero]
      repeat (first
          | ((with_reducible refine kLoad ?_); refine kldA H ?_)
          | ((fail_if_success (with_reducible refine kCall ?_)); (with_reducible refine kCons ?_); refine wpK_step (fun K hK => ?_); go_simp; refine hK _ ?_; clear hK K))
      refine wpK_step (fun K hK => ?_)
      go_simp
      apply Exists.intro
      refine ⟨fun sx => ?_, hK _ ?_⟩
      · go_at_call 35
        exact ROf_any 0 e0 _ (by decide) (by decide) Ee0 (H.out.tbx sx)
      clear hK K
      refine wpK_step (fun K hK => ?_)
      go_simp
      apply Exists.intro
      refine ⟨fun sx => ?_, hK _ ?_⟩
      · go_at_call 34
        exact Drift_wide2 (i := 2) (j := 1) (k := 2) a1 b1 a2 b2 a3 b3 (some x) (some y) (some t) (some x2) (some y2) (some t2) e2 e0 _ _ (by decide) A1 A2 A3 Zx Zy Zt Zx2 Zy2 Zt2 Z2 H2 Z0 H0 (H.out.getx sx (by (repeat (first | exact List.Mem.head _ | refine List.Mem.tail _ ?_ | assumption)))) G G4 (H.out.tbx sx)
      clear hK K
      repeat (first
          | ((fail_if_success (with_reducible refine kCall ?_)); (with_reducible refine kCons ?_); refine wpK_step (fun K hK => ?_); go_simp; refine hK _ ?_; clear hK K))
      refine wpKeep_nil ?_
      intro _
      (simp only [Act.put, List.setIfInBounds_toArray, List.set_cons_succ, List.set_cons_zero])
      refine ⟨⟨⟨_, _, _, rfl, by (first | exact rRat | exact rSpan | exact rPose | exact rFrame | exact rVec | exact rTurn | exact rBox), rfl, rfl⟩, rfl, rfl, rfl, rfl⟩, ?_⟩
      clear H
      intro _ H
      go_wp2_with (first
          | go_skip)
      refine wp_region_G (vs := [.bool false, .string ⟨#[]⟩, .string ⟨#[]⟩, .bool false, .string ⟨#[]⟩, .string ⟨#[]⟩, .bool false, .string ⟨#[]⟩, .string ⟨#[]⟩, .bool false, .string ⟨#[]⟩, .string ⟨#[]⟩, .bool false, .string ⟨#[]⟩, .string ⟨#[]⟩, .bool false, .string ⟨#[]⟩, .string ⟨#[]⟩]) 8 H (by kernel_rfl) (by kernel_rfl) rfl rfl (by simp [Allocs, go_sem]; intro _ _; rfl) (by kernel_rfl) rfl rfl ?_
      simp only [List.take_succ_cons, List.take_zero, List.drop_succ_cons, List.drop_zero]
      repeat (first
          | ((with_reducible refine kLoad ?_); refine kldA H ?_)
          | ((fail_if_success (with_reducible refine kCall ?_)); (with_reducible refine kCons ?_); refine wpK_step (fun K hK => ?_); go_simp; refine hK _ ?_; clear hK K))
      refine wpK_step (fun K hK => ?_)
      go_simp
      apply Exists.intro
      refine ⟨fun sx => ?_, hK _ ?_⟩
      · go_at_call 35
        exact ROf_any 0 e0 _ (by decide) (by decide) Ee0 (H.out.tbx sx)
      clear hK K
      refine wpK_step (fun K hK => ?_)
      go_simp
      apply Exists.intro
      refine ⟨fun sx => ?_, hK _ ?_⟩
      · go_at_call 35
        exact ROf_any 0 e0 _ (by decide) (by decide) Ee0 (H.out.tbx sx)
      clear hK K
      refine wpK_step (fun K hK => ?_)
      go_simp
      apply Exists.intro
      refine ⟨fun sx => ?_, hK _ ?_⟩
      · go_at_call 34
        exact Drift_wide2 (i := 2) (j := 1) (k := 2) a1 b1 a2 b2 a3 b3 (some x) (some y) (some t) (some x2) (some y2) (some t2) e0 e0 _ _ (by decide) A1 A2 A3 Zx Zy Zt Zx2 Zy2 Zt2 Z0 H0 Z0 H0 (H.out.getx sx (by (repeat (first | exact List.Mem.head _ | refine List.Mem.tail _ ?_ | assumption)))) G G4 (H.out.tbx sx)
      clear hK K
      repeat (first
          | ((fail_if_success (with_reducible refine kCall ?_)); (with_reducible refine kCons ?_); refine wpK_step (fun K hK => ?_); go_simp; refine hK _ ?_; clear hK K))
      refine wpKeep_nil ?_
      intro _
      (simp only [Act.put, List.setIfInBounds_toArray, List.set_cons_succ, List.set_cons_zero])
      refine ⟨⟨⟨_, _, _, rfl, by (first | exact rRat | exact rSpan | exact rPose | exact rFrame | exact rVec | exact rTurn | exact rBox), rfl, rfl⟩, rfl, rfl, rfl, rfl⟩, ?_⟩
      clear H
      intro _ H
      go_wp2_with (first
          | ((with_reducible refine isLoad ?_); refine ldA H ?_))
      refine (Carry_wide2 (i := 2) (j := 1) (k := 2) (some a1) (some b1) a1 b1 (some a2) (some b2) a2 b2 (some a3) (some b3) a3 b3 (some x) (some y) (some t) (some x2) (some y2) (some t2) _ (by decide) A1 A2 A3 Zx Zy Zt Zx2 Zy2 Zt2 G G2 H.out.tb).mono ?_
      rintro _ _ ⟨rfl, hb⟩
      replace H := Lib.hid (H.out.go hb)
      clear hb
      go_wp2_with (first
          | ((with_reducible refine isStore ?_); refine stA H ?_; clear H; intro _ H)
          | ((with_reducible refine isAlloc ?_); refine alA H ?_; clear H; intro _ _ H))
      refine (carried_any _ H.out.tb).mono ?_
      rintro _ _ ⟨rfl, hb⟩
      replace H := Lib.hid (H.out.go hb)
      clear hb
      go_wp2_with (first
          | go_skip)
      go_ret
      exact ⟨rfl, H.out.bel⟩
    | false =>
      have p0 := (P.out.pok (by decide)).grip (j := 1) (g := (⟨x, y, t⟩ : Fr)) ⟨Zx, Zy, Zt⟩ G0 (by decide) (by decide)
      have g1 : tWide t2 (tvQ (-t) a3 - e0) (tvQ (-t) b3 + e0) = false := by rw [← Ee0.out]; rw [zero_sub_, zero_add_]; exact G20
      have w1 := p0.wid (j := 1) (b := e1) (s := e0) Z1 Z0 H1.out H0.out (by decide) (by decide)
      have k1 := w1.put (j := 1) (g := (⟨x2, y2, t2⟩ : Fr)) ⟨Zx2, Zy2, Zt2⟩ g1 (by decide) (by decide)
      have w2 := p0.wid (j := 1) (b := e2) (s := e0) Z2 Z0 H2.out H0.out (by decide) (by decide)
      have k2 := w2.put (j := 1) (g := (⟨x2, y2, t2⟩ : Fr)) ⟨Zx2, Zy2, Zt2⟩ g1 (by decide) (by decide)
      have w0 := p0.wid (j := 1) (b := e0) (s := e0) Z0 Z0 H0.out H0.out (by decide) (by decide)
      have k0 := w0.put (j := 1) (g := (⟨x2, y2, t2⟩ : Fr)) ⟨Zx2, Zy2, Zt2⟩ g1 (by decide) (by decide)
      obtain ⟨⟨q1, q2, q3, q4, q5, q6⟩, EA⟩ : ∃ z : Ps, Hid (putP (⟨x2, y2, t2⟩ : Fr) (widP e1 e0 (gripP (⟨x, y, t⟩ : Fr) (⟨a1, b1, a2, b2, a3, b3⟩ : Ps))) = z) := ⟨_, rfl⟩
      have Eq1 : Hid ((putP (⟨x2, y2, t2⟩ : Fr) (widP e1 e0 (gripP (⟨x, y, t⟩ : Fr) (⟨a1, b1, a2, b2, a3, b3⟩ : Ps)))).a1 = q1) := congrArg Ps.a1 EA.out
      have Eq2 : Hid ((putP (⟨x2, y2, t2⟩ : Fr) (widP e1 e0 (gripP (⟨x, y, t⟩ : Fr) (⟨a1, b1, a2, b2, a3, b3⟩ : Ps)))).b1 = q2) := congrArg Ps.b1 EA.out
      have Eq3 : Hid ((putP (⟨x2, y2, t2⟩ : Fr) (widP e1 e0 (gripP (⟨x, y, t⟩ : Fr) (⟨a1, b1, a2, b2, a3, b3⟩ : Ps)))).a2 = q3) := congrArg Ps.a2 EA.out
      have Eq4 : Hid ((putP (⟨x2, y2, t2⟩ : Fr) (widP e1 e0 (gripP (⟨x, y, t⟩ : Fr) (⟨a1, b1, a2, b2, a3, b3⟩ : Ps)))).b2 = q4) := congrArg Ps.b2 EA.out
      have Eq5 : Hid ((putP (⟨x2, y2, t2⟩ : Fr) (widP e1 e0 (gripP (⟨x, y, t⟩ : Fr) (⟨a1, b1, a2, b2, a3, b3⟩ : Ps)))).a3 = q5) := congrArg Ps.a3 EA.out
      have Eq6 : Hid ((putP (⟨x2, y2, t2⟩ : Fr) (widP e1 e0 (gripP (⟨x, y, t⟩ : Fr) (⟨a1, b1, a2, b2, a3, b3⟩ : Ps)))).b3 = q6) := congrArg Ps.b3 EA.out
      obtain ⟨⟨r1, r2, r3, r4, r5, r6⟩, EB⟩ : ∃ z : Ps, Hid (putP (⟨x2, y2, t2⟩ : Fr) (widP e2 e0 (gripP (⟨x, y, t⟩ : Fr) (⟨a1, b1, a2, b2, a3, b3⟩ : Ps))) = z) := ⟨_, rfl⟩
      have Er1 : Hid ((putP (⟨x2, y2, t2⟩ : Fr) (widP e2 e0 (gripP (⟨x, y, t⟩ : Fr) (⟨a1, b1, a2, b2, a3, b3⟩ : Ps)))).a1 = r1) := congrArg Ps.a1 EB.out
      have Er2 : Hid ((putP (⟨x2, y2, t2⟩ : Fr) (widP e2 e0 (gripP (⟨x, y, t⟩ : Fr) (⟨a1, b1, a2, b2, a3, b3⟩ : Ps)))).b1 = r2) := congrArg Ps.b1 EB.out
      have Er3 : Hid ((putP (⟨x2, y2, t2⟩ : Fr) (widP e2 e0 (gripP (⟨x, y, t⟩ : Fr) (⟨a1, b1, a2, b2, a3, b3⟩ : Ps)))).a2 = r3) := congrArg Ps.a2 EB.out
      have Er4 : Hid ((putP (⟨x2, y2, t2⟩ : Fr) (widP e2 e0 (gripP (⟨x, y, t⟩ : Fr) (⟨a1, b1, a2, b2, a3, b3⟩ : Ps)))).b2 = r4) := congrArg Ps.b2 EB.out
      have Er5 : Hid ((putP (⟨x2, y2, t2⟩ : Fr) (widP e2 e0 (gripP (⟨x, y, t⟩ : Fr) (⟨a1, b1, a2, b2, a3, b3⟩ : Ps)))).a3 = r5) := congrArg Ps.a3 EB.out
      have Er6 : Hid ((putP (⟨x2, y2, t2⟩ : Fr) (widP e2 e0 (gripP (⟨x, y, t⟩ : Fr) (⟨a1, b1, a2, b2, a3, b3⟩ : Ps)))).b3 = r6) := congrArg Ps.b3 EB.out
      obtain ⟨⟨u1, v1, u2, v2, u3, v3⟩, EC⟩ : ∃ z : Ps, Hid (putP (⟨x2, y2, t2⟩ : Fr) (widP e0 e0 (gripP (⟨x, y, t⟩ : Fr) (⟨a1, b1, a2, b2, a3, b3⟩ : Ps))) = z) := ⟨_, rfl⟩
      have Eu1 : Hid ((putP (⟨x2, y2, t2⟩ : Fr) (widP e0 e0 (gripP (⟨x, y, t⟩ : Fr) (⟨a1, b1, a2, b2, a3, b3⟩ : Ps)))).a1 = u1) := congrArg Ps.a1 EC.out
      have Ev1 : Hid ((putP (⟨x2, y2, t2⟩ : Fr) (widP e0 e0 (gripP (⟨x, y, t⟩ : Fr) (⟨a1, b1, a2, b2, a3, b3⟩ : Ps)))).b1 = v1) := congrArg Ps.b1 EC.out
      have Eu2 : Hid ((putP (⟨x2, y2, t2⟩ : Fr) (widP e0 e0 (gripP (⟨x, y, t⟩ : Fr) (⟨a1, b1, a2, b2, a3, b3⟩ : Ps)))).a2 = u2) := congrArg Ps.a2 EC.out
      have Ev2 : Hid ((putP (⟨x2, y2, t2⟩ : Fr) (widP e0 e0 (gripP (⟨x, y, t⟩ : Fr) (⟨a1, b1, a2, b2, a3, b3⟩ : Ps)))).b2 = v2) := congrArg Ps.b2 EC.out
      have Eu3 : Hid ((putP (⟨x2, y2, t2⟩ : Fr) (widP e0 e0 (gripP (⟨x, y, t⟩ : Fr) (⟨a1, b1, a2, b2, a3, b3⟩ : Ps)))).a3 = u3) := congrArg Ps.a3 EC.out
      have Ev3 : Hid ((putP (⟨x2, y2, t2⟩ : Fr) (widP e0 e0 (gripP (⟨x, y, t⟩ : Fr) (⟨a1, b1, a2, b2, a3, b3⟩ : Ps)))).b3 = v3) := congrArg Ps.b3 EC.out
      have EZ : putP (⟨x2, y2, t2⟩ : Fr) (gripP (⟨x, y, t⟩ : Fr) (⟨a1, b1, a2, b2, a3, b3⟩ : Ps)) = ⟨u1, v1, u2, v2, u3, v3⟩ := by rw [← EC.out, ← Ee0.out, widP_zero]
      have Du1 : Hid ((putP (⟨x2, y2, t2⟩ : Fr) (gripP (⟨x, y, t⟩ : Fr) (⟨a1, b1, a2, b2, a3, b3⟩ : Ps))).a1 = u1) := congrArg Ps.a1 EZ
      have Dv1 : Hid ((putP (⟨x2, y2, t2⟩ : Fr) (gripP (⟨x, y, t⟩ : Fr) (⟨a1, b1, a2, b2, a3, b3⟩ : Ps))).b1 = v1) := congrArg Ps.b1 EZ
      have Du2 : Hid ((putP (⟨x2, y2, t2⟩ : Fr) (gripP (⟨x, y, t⟩ : Fr) (⟨a1, b1, a2, b2, a3, b3⟩ : Ps))).a2 = u2) := congrArg Ps.a2 EZ
      have Dv2 : Hid ((putP (⟨x2, y2, t2⟩ : Fr) (gripP (⟨x, y, t⟩ : Fr) (⟨a1, b1, a2, b2, a3, b3⟩ : Ps))).b2 = v2) := congrArg Ps.b2 EZ
      have Du3 : Hid ((putP (⟨x2, y2, t2⟩ : Fr) (gripP (⟨x, y, t⟩ : Fr) (⟨a1, b1, a2, b2, a3, b3⟩ : Ps))).a3 = u3) := congrArg Ps.a3 EZ
      have Dv3 : Hid ((putP (⟨x2, y2, t2⟩ : Fr) (gripP (⟨x, y, t⟩ : Fr) (⟨a1, b1, a2, b2, a3, b3⟩ : Ps))).b3 = v3) := congrArg Ps.b3 EZ
      have S1_ : (putP (⟨x2, y2, t2⟩ : Fr) (widP e1 e0 (gripP (⟨x, y, t⟩ : Fr) (⟨a1, b1, a2, b2, a3, b3⟩ : Ps)))).sub (putP (⟨x2, y2, t2⟩ : Fr) (widP e2 e0 (gripP (⟨x, y, t⟩ : Fr) (⟨a1, b1, a2, b2, a3, b3⟩ : Ps)))) := wid_mono p0 H12 H1.out
      have S0_ : (putP (⟨x2, y2, t2⟩ : Fr) (widP e0 e0 (gripP (⟨x, y, t⟩ : Fr) (⟨a1, b1, a2, b2, a3, b3⟩ : Ps)))).sub (putP (⟨x2, y2, t2⟩ : Fr) (widP e1 e0 (gripP (⟨x, y, t⟩ : Fr) (⟨a1, b1, a2, b2, a3, b3⟩ : Ps)))) := wid_mono p0 (by rw [← Ee0.out]; exact H1.out) H0.out
      rw [EA.out, EB.out] at S1_
      rw [EC.out, EA.out] at S0_
      rw [EA.out] at k1
      rw [EB.out] at k2
      rw [EC.out] at k0
      have Q : Hid (PoseF 200 q1 q2 q3 q4 q5 q6) := k1.pose (by decide) (by decide)
      have R : Hid (PoseF 200 r1 r2 r3 r4 r5 r6) := k2.pose (by decide) (by decide)
      have U : Hid (PoseF 200 u1 v1 u2 v2 u3 v3) := k0.pose (by decide) (by decide)
      have I1 : Hid (inF q1 q2 q3 q4 q5 q6 r1 r2 r3 r4 r5 r6 = true) := Ps.sub_iff.2 S1_
      have I2 : Hid (inF u1 v1 u2 v2 u3 v3 q1 q2 q3 q4 q5 q6 = true) := Ps.sub_iff.2 S0_
      have IS : inF u1 v1 u2 v2 u3 v3 u1 v1 u2 v2 u3 v3 = true := decide_eq_true ⟨⟨Rat.le_refl, Rat.le_refl⟩, ⟨Rat.le_refl, Rat.le_refl⟩, ⟨Rat.le_refl, Rat.le_refl⟩⟩
      have I3 : Hid ((inF u1 v1 u2 v2 u3 v3 u1 v1 u2 v2 u3 v3 && inF u1 v1 u2 v2 u3 v3 u1 v1 u2 v2 u3 v3) = true) := by unfold Hid; rw [IS]; rfl
      clear p0 w0 w1 w2 k0 k1 k2 S1_ S0_ EZ IS
      have G4 : Hid (tWide (valO (some t2)) (tvQ (-(valO (some t))) a3 - e0) (tvQ (-(valO (some t))) b3 + e0) = false) := g1
      have G2 : Hid (tWide (valO (some t2)) (tvQ (-(valO (some t))) a3) (tvQ (-(valO (some t))) b3) = false) := G20
      clear g1 G20
      have G : Hid (tWide (-(valO (some t))) a3 b3 = false) := G0
      clear G0 H12
      have H := Lib.hid (Hp.start hT)
      clear hT
      go_enter Tryd.func7, Tryd.ntmps7
      go_wp2_with (first
          | go_skip)
      refine ((CP.out _ H.out.bel H.out.tb)).mono ?_
      rintro _ _ ⟨rfl, hb⟩
      replace H := Lib.hid (H.out.go hb)
      clear hb
      go_wp2_with (first
          | go_skip)
      refine ((CG.out _ H.out.bel H.out.tb)).mono ?_
      rintro _ _ ⟨rfl, hb⟩
      replace H := Lib.hid (H.out.go hb)
      clear hb
      go_wp2_with (first
          | go_skip)
      refine ((CH.out _ H.out.bel H.out.tb)).mono ?_
      rintro _ _ ⟨rfl, hb⟩
      replace H := Lib.hid (H.out.go hb)
      clear hb
      go_wp2_with (first
          | ((with_reducible refine isStore ?_); refine stA H ?_; clear H; intro _ H)
          | ((with_reducible refine isAlloc ?_); refine alA H ?_; clear H; intro _ _ H))
      refine (belowQ_any b 9 m1 _ (by decide) hb1 hb2 (by decide) M1).mono ?_
      rintro _ _ ⟨rfl, hb⟩
      replace H := Lib.hid (H.out.go hb)
      clear hb
      go_wp2_with (first
          | go_skip)
      refine (ofQ_any m1 8 e1 _ (by omega) (by omega) (by decide) (by decide) Ee1).mono ?_
      rintro _ _ ⟨rfl, hb⟩
      replace H := Lib.hid (H.out.go hb)
      clear hb
      go_wp2_with (first
          | go_skip)
      refine (belowQ_any b 9 m1 _ (by decide) hb1 hb2 (by decide) M1).mono ?_
      rintro _ _ ⟨rfl, hb⟩
      replace H := Lib.hid (H.out.go hb)
      clear hb
      go_wp2_with (first
          | go_skip)
      refine (belowQ_any c 9 m2 _ (by decide) hc1 hc2 (by decide) M2).mono ?_
      rintro _ _ ⟨rfl, hb⟩
      replace H := Lib.hid (H.out.go hb)
      clear hb
      go_wp2_with (first
          | go_skip)
      refine (ofQ_any (m1 + m2) 8 e2 _ (by omega) (by omega) (by decide) (by decide) Ee2).mono ?_
      rintro _ _ ⟨rfl, hb⟩
      replace H := Lib.hid (H.out.go hb)
      clear hb
      go_wp2_with (first
          | ((with_reducible refine isSlice ?_); refine wpList_sliceH H 65 ([.bool (sgO (some x)), .string (nuO (some x)), .string (deO (some x)), .bool (sgO (some y)), .string (nuO (some y)), .string (deO (some y)), .bool false, .bool (sgO (some t)), .string (nuO (some t)), .string (deO (some t)), .bool (sgO (some x2)), .string (nuO (some x2)), .string (deO (some x2)), .bool (sgO (some y2)), .string (nuO (some y2)), .string (deO (some y2)), .bool false, .bool (sgO (some t2)), .string (nuO (some t2)), .string (deO (some t2))]) 1 rfl rfl (by intro W; kernel_rfl) ?_; clear H; intro _ _ H; (simp only [Act.put, List.setIfInBounds_toArray, List.set_cons_succ, List.set_cons_zero]))
          | ((with_reducible refine isLoad ?_); refine ldA H ?_)
          | ((with_reducible refine isStore ?_); refine stA H ?_; clear H; intro _ H)
          | ((with_reducible refine isAlloc ?_); refine alA H ?_; clear H; intro _ _ H))
      refine wp_region_G (vs := [.bool (sgO (some q1)), .string (nuO (some q1)), .string (deO (some q1)), .bool (sgO (some q2)), .string (nuO (some q2)), .string (deO (some q2)), .bool (sgO (some q3)), .string (nuO (some q3)), .string (deO (some q3)), .bool (sgO (some q4)), .string (nuO (some q4)), .string (deO (some q4)), .bool (sgO (some q5)), .string (nuO (some q5)), .string (deO (some q5)), .bool (sgO (some q6)), .string (nuO (some q6)), .string (deO (some q6))]) 8 H (by kernel_rfl) (by kernel_rfl) rfl rfl (by simp [Allocs, go_sem]; intro _ _; rfl) (by kernel_rfl) rfl rfl ?_
      simp only [List.take_succ_cons, List.take_zero, List.drop_succ_cons, List.drop_zero]
      repeat (first
          | ((with_reducible refine kLoad ?_); refine kldA H ?_)
          | ((fail_if_success (with_reducible refine kCall ?_)); (with_reducible refine kCons ?_); refine wpK_step (fun K hK => ?_); go_simp; refine hK _ ?_; clear hK K))
      refine wpK_step (fun K hK => ?_)
      go_simp
      apply Exists.intro
      refine ⟨fun sx => ?_, hK _ ?_⟩
      · go_at_call 35
        exact ROf_any 0 e0 _ (by decide) (by decide) Ee0 (H.out.tbx sx)
      clear hK K
      refine wpK_step (fun K hK => ?_)
      go_simp
      apply Exists.intro
      refine ⟨fun sx => ?_, hK _ ?_⟩
      · go_at_call 34
        exact Drift_ok (i := 2) (j := 1) (k := 2) a1 b1 a2 b2 a3 b3 (some x) (some y) (some t) (some x2) (some y2) (some t2) e1 e0 _ q5 q6 q1 q2 q3 q4 _ (by decide) A1 A2 A3 Zx Zy Zt Zx2 Zy2 Zt2 Z1 H1 Z0 H0 (H.out.getx sx (by (repeat (first | exact List.Mem.head _ | refine List.Mem.tail _ ?_ | assumption)))) G G4 Eq5 Eq6 Eq1 Eq2 Eq3 Eq4 (H.out.tbx sx)
      clear hK K
      repeat (first
          | ((fail_if_success (with_reducible refine kCall ?_)); (with_reducible refine kCons ?_); refine wpK_step (fun K hK => ?_); go_simp; refine hK _ ?_; clear hK K))
      refine wpKeep_nil ?_
      intro _
      (simp only [Act.put, List.setIfInBounds_toArray, List.set_cons_succ, List.set_cons_zero])
      refine ⟨⟨⟨_, _, _, rfl, by (first | exact rRat | exact rSpan | exact rPose | exact rFrame | exact rVec | exact rTurn | exact rBox), rfl, rfl⟩, rfl, rfl, rfl, rfl⟩, ?_⟩
      clear H
      intro _ H
      go_wp2_with (first
          | go_skip)
      refine wp_region_G (vs := [.bool (sgO (some r1)), .string (nuO (some r1)), .string (deO (some r1)), .bool (sgO (some r2)), .string (nuO (some r2)), .string (deO (some r2)), .bool (sgO (some r3)), .string (nuO (some r3)), .string (deO (some r3)), .bool (sgO (some r4)), .string (nuO (some r4)), .string (deO (some r4)), .bool (sgO (some r5)), .string (nuO (some r5)), .string (deO (some r5)), .bool (sgO (some r6)), .string (nuO (some r6)), .string (deO (some r6))]) 8 H (by kernel_rfl) (by kernel_rfl) rfl rfl (by simp [Allocs, go_sem]; intro _ _; rfl) (by kernel_rfl) rfl rfl ?_
      simp only [List.take_succ_cons, List.take_zero, List.drop_succ_cons, List.drop_zero]
      repeat (first
          | ((with_reducible refine kLoad ?_); refine kldA H ?_)
          | ((fail_if_success (with_reducible refine kCall ?_)); (with_reducible refine kCons ?_); refine wpK_step (fun K hK => ?_); go_simp; refine hK _ ?_; clear hK K))
      refine wpK_step (fun K hK => ?_)
      go_simp
      apply Exists.intro
      refine ⟨fun sx => ?_, hK _ ?_⟩
      · go_at_call 35
        exact ROf_any 0 e0 _ (by decide) (by decide) Ee0 (H.out.tbx sx)
      clear hK K
      refine wpK_step (fun K hK => ?_)
      go_simp
      apply Exists.intro
      refine ⟨fun sx => ?_, hK _ ?_⟩
      · go_at_call 34
        exact Drift_ok (i := 2) (j := 1) (k := 2) a1 b1 a2 b2 a3 b3 (some x) (some y) (some t) (some x2) (some y2) (some t2) e2 e0 _ r5 r6 r1 r2 r3 r4 _ (by decide) A1 A2 A3 Zx Zy Zt Zx2 Zy2 Zt2 Z2 H2 Z0 H0 (H.out.getx sx (by (repeat (first | exact List.Mem.head _ | refine List.Mem.tail _ ?_ | assumption)))) G G4 Er5 Er6 Er1 Er2 Er3 Er4 (H.out.tbx sx)
      clear hK K
      repeat (first
          | ((fail_if_success (with_reducible refine kCall ?_)); (with_reducible refine kCons ?_); refine wpK_step (fun K hK => ?_); go_simp; refine hK _ ?_; clear hK K))
      refine wpKeep_nil ?_
      intro _
      (simp only [Act.put, List.setIfInBounds_toArray, List.set_cons_succ, List.set_cons_zero])
      refine ⟨⟨⟨_, _, _, rfl, by (first | exact rRat | exact rSpan | exact rPose | exact rFrame | exact rVec | exact rTurn | exact rBox), rfl, rfl⟩, rfl, rfl, rfl, rfl⟩, ?_⟩
      clear H
      intro _ H
      go_wp2_with (first
          | go_skip)
      refine wp_region_G (vs := [.bool (sgO (some u1)), .string (nuO (some u1)), .string (deO (some u1)), .bool (sgO (some v1)), .string (nuO (some v1)), .string (deO (some v1)), .bool (sgO (some u2)), .string (nuO (some u2)), .string (deO (some u2)), .bool (sgO (some v2)), .string (nuO (some v2)), .string (deO (some v2)), .bool (sgO (some u3)), .string (nuO (some u3)), .string (deO (some u3)), .bool (sgO (some v3)), .string (nuO (some v3)), .string (deO (some v3))]) 8 H (by kernel_rfl) (by kernel_rfl) rfl rfl (by simp [Allocs, go_sem]; intro _ _; rfl) (by kernel_rfl) rfl rfl ?_
      simp only [List.take_succ_cons, List.take_zero, List.drop_succ_cons, List.drop_zero]
      repeat (first
          | ((with_reducible refine kLoad ?_); refine kldA H ?_)
          | ((fail_if_success (with_reducible refine kCall ?_)); (with_reducible refine kCons ?_); refine wpK_step (fun K hK => ?_); go_simp; refine hK _ ?_; clear hK K))
      refine wpK_step (fun K hK => ?_)
      go_simp
      apply Exists.intro
      refine ⟨fun sx => ?_, hK _ ?_⟩
      · go_at_call 35
        exact ROf_any 0 e0 _ (by decide) (by decide) Ee0 (H.out.tbx sx)
      clear hK K
      refine wpK_step (fun K hK => ?_)
      go_simp
      apply Exists.intro
      refine ⟨fun sx => ?_, hK _ ?_⟩
      · go_at_call 35
        exact ROf_any 0 e0 _ (by decide) (by decide) Ee0 (H.out.tbx sx)
      clear hK K
      refine wpK_step (fun K hK => ?_)
      go_simp
      apply Exists.intro
      refine ⟨fun sx => ?_, hK _ ?_⟩
      · go_at_call 34
        exact Drift_ok (i := 2) (j := 1) (k := 2) a1 b1 a2 b2 a3 b3 (some x) (some y) (some t) (some x2) (some y2) (some t2) e0 e0 _ u3 v3 u1 v1 u2 v2 _ (by decide) A1 A2 A3 Zx Zy Zt Zx2 Zy2 Zt2 Z0 H0 Z0 H0 (H.out.getx sx (by (repeat (first | exact List.Mem.head _ | refine List.Mem.tail _ ?_ | assumption)))) G G4 Eu3 Ev3 Eu1 Ev1 Eu2 Ev2 (H.out.tbx sx)
      clear hK K
      repeat (first
          | ((fail_if_success (with_reducible refine kCall ?_)); (with_reducible refine kCons ?_); refine wpK_step (fun K hK => ?_); go_simp; refine hK _ ?_; clear hK K))
      refine wpKeep_nil ?_
      intro _
      (simp only [Act.put, List.setIfInBounds_toArray, List.set_cons_succ, List.set_cons_zero])
      refine ⟨⟨⟨_, _, _, rfl, by (first | exact rRat | exact rSpan | exact rPose | exact rFrame | exact rVec | exact rTurn | exact rBox), rfl, rfl⟩, rfl, rfl, rfl, rfl⟩, ?_⟩
      clear H
      intro _ H
      go_wp2_with (first
          | ((with_reducible refine isLoad ?_); refine ldA H ?_))
      refine (Carry_ok (i := 2) (j := 1) (k := 2) (some a1) (some b1) a1 b1 (some a2) (some b2) a2 b2 (some a3) (some b3) a3 b3 (some x) (some y) (some t) (some x2) (some y2) (some t2) u3 v3 u1 v1 u2 v2 _ (by decide) A1 A2 A3 Zx Zy Zt Zx2 Zy2 Zt2 G G2 Du3 Dv3 Du1 Dv1 Du2 Dv2 H.out.tb).mono ?_
      rintro _ _ ⟨rfl, hb⟩
      replace H := Lib.hid (H.out.go hb)
      clear hb
      go_wp2_with (first
          | ((with_reducible refine isStore ?_); refine stA H ?_; clear H; intro _ H)
          | ((with_reducible refine isAlloc ?_); refine alA H ?_; clear H; intro _ _ H))
      refine (carried_any _ H.out.tb).mono ?_
      rintro _ _ ⟨rfl, hb⟩
      replace H := Lib.hid (H.out.go hb)
      clear hb
      go_wp2_with (first
          | ((with_reducible refine isLoad ?_); refine ldA H ?_))
      refine (InF_any (k := 200) q1 q2 q3 q4 q5 q6 r1 r2 r3 r4 r5 r6 true _ (by decide) Q.out R.out I1 H.out.tb).mono ?_
      rintro _ _ ⟨rfl, hb⟩
      replace H := Lib.hid (H.out.go hb)
      clear hb
      go_wp2_with (first
          | ((with_reducible refine isLoad ?_); refine ldA H ?_))
      refine (InF_any (k := 200) u1 v1 u2 v2 u3 v3 q1 q2 q3 q4 q5 q6 true _ (by decide) U.out Q.out I2 H.out.tb).mono ?_
      rintro _ _ ⟨rfl, hb⟩
      replace H := Lib.hid (H.out.go hb)
      clear hb
      go_wp2_with (first
          | ((with_reducible refine isLoad ?_); refine ldA H ?_))
      refine (SameF_any (k := 200) u1 v1 u2 v2 u3 v3 u1 v1 u2 v2 u3 v3 true _ (by decide) U.out U.out I3 H.out.tb).mono ?_
      rintro _ _ ⟨rfl, hb⟩
      replace H := Lib.hid (H.out.go hb)
      clear hb
      go_wp2_with (first
          | go_skip)
      go_ret
      exact ⟨rfl, H.out.bel⟩
end Go.Proofs.YtolekonocbeekaaDoor
