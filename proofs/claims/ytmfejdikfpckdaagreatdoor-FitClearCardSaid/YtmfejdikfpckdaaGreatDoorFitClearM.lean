/- gantkeep4.FitClear. Printed by gen/fitr.py. -/
import Derived.Test.YtmfejdikfpckdaaGreatDoorFc24
namespace Go.Proofs.YtmfejdikfpckdaaGreatDoor
open Go.RowKit
set_option linter.unusedVariables false
set_option maxRecDepth 100000

set_option maxHeartbeats 8000000 in
theorem clear_core (S : Sd) (w : World) (hS : Hid (S.ok w))  (hT : Tb w) :
    Calls Tryz.prog 5 #[.slice S.A S.xs.length S.c] w fun e w' => e = .returned (.bool true) ∧ Below w.heap.size w w' := by
  have H := Lib.hid (Hp.start hT)
  clear hT
  go_enter Tryz.func5, Tryz.ntmps5
  go_wp2_with (first
      | go_skip)
  refine (wrk_any S _ (Lib.hid (hS.out.below H.out.bel)) H.out.tb).mono ?_
  rintro _ w5 ⟨⟨v, ps, ss, ws, rfl, hwk, hp, hs, hw, lp, ls, lw⟩, hb⟩
  have H0 := Lib.hid (H.out.go hb)
  clear H hb
  have H := Lib.hid (Hp.start H0.out.tb)
  have W0 := Lib.hid hwk
  have PK := Lib.hid hp
  have SK := Lib.hid hs
  have WLK := Lib.hid hw
  clear hwk hp hs hw
  obtain ⟨⟨a1, a2, a3, a4, a5, n1, n5, c1, c2, c3, c4, c5, wb, w1, w2, rfl, RW, RP, RS⟩, HPL, HWL⟩ := W0.out
  by_cases hne : 0 < ps.length ∧ 0 < ss.length
  · have dne : decide (0 < ps.length ∧ 0 < ss.length) = true := decide_eq_true hne
    rw [dne]
    clear dne
    obtain ⟨hnp, hns⟩ := hne
    obtain ⟨p, G1, g1⟩ := item_at hnp
    have P1 := PK.out p g1
    have RWH := Lib.hid RW
    have RPH := Lib.hid RP
    have RSH := Lib.hid RS
    have HPLH := Lib.hid HPL
    have HWLH := Lib.hid HWL
    clear RW RP RS HPL HWL
    obtain ⟨nw, hnw⟩ : ∃ nw, ws.length = nw := ⟨_, rfl⟩
    rw [hnw] at W0 RWH lw
    rw [hnw]
    have HNW := Lib.hid hnw
    clear hnw
    obtain ⟨L, hL⟩ : ∃ L, slotN p ss ws ss.length = L := ⟨_, rfl⟩
    have HL := Lib.hid hL
    clear hL
    go_wp2_with (first
        | ((with_reducible refine isAlloc ?_); refine alA (hz := zWks) H ?_; clear H; intro _ _ H)
        | ((with_reducible refine isStore ?_); refine stA (hT := rWks) H ?_; clear H; intro _ H))
    refine (fitted_any _ H.out.tb).mono ?_
    rintro _ _ ⟨rfl, hb⟩
    replace H := Lib.hid (H.out.go hb)
    clear hb
    go_wp2_with (first
        | ((with_reducible refine isLoad ?_); refine ldA (hT := rWks) H ?_))
    refine (fitSlots_any _ ps ss ws p 0 _ (Lib.hid (W0.out.below H.out.bel)) G1 P1 SK WLK (by omega) (by omega) (by rw [HNW.out]; omega) H.out.tb).mono ?_
    rintro _ _ ⟨vs, curI, rfl, hR, hI⟩
    rw [HL.out] at hR
    obtain ⟨B0, k0, hvs, hk0⟩ := hR.shape
    subst hvs
    have RI := Lib.hid hR
    replace H := Lib.hid ((H.out.join hI).perm List.perm_append_comm)
    simp only [List.cons_append, List.nil_append] at H
    clear hR hI
    go_wp2_with (first
        | ((with_reducible refine isLoad ?_); refine ld1A (hT := kSlots) H ?_))
    rename_i g3 W3 W4 W4b W4c K8 hK8
    go_loopw [37] (fun i_ wr => ∃ (m : Nat), i_ = .int .i64 m ∧ m ≤ ss.length ∧ Hid (Hp w5 wr ((g3, 31, [.slice a1 n1 c1, .slice a2 nw c2, .slice a3 ps.length c3, .slice a4 ss.length c4, .slice a5 n5 c5, .bool wb, .string w1, .string w2]) :: rowE (.slice B0 L.length k0) 3 curI))) (fun i_ _ => ss.length - (intOf i_).toNat)
    case atStart => exact ⟨0, rfl, by omega, H⟩
    case round =>
      clear H
      obtain ⟨m, rfl, hm1, H⟩ := hrel
      by_cases hlt : m < ss.length
      · obtain ⟨s, HS⟩ : ∃ s, Hid (ss[m]? = some s) := ⟨_, Lib.hid (List.getElem?_eq_getElem hlt)⟩
        have SOKs : SOK s := SK.out s (List.mem_of_getElem? HS.out)
        have Ht : Hid ((ss.set m s.tight)[m]? = some s.tight) := by unfold Hid; rw [List.getElem?_set_self hlt]
        obtain ⟨r, hr⟩ : ∃ r, clrB p s ws = r := ⟨_, rfl⟩
        have HR := Lib.hid hr
        have HM : Hid (decide (m ∈ L) = r) := by
          unfold Hid
          rw [← hr, ← clrJ_at HS.out, ← HL.out]
          refine Bool.eq_iff_iff.2 ⟨fun h => (slotN_mem.1 (of_decide_eq_true h)).2, fun h => decide_eq_true (slotN_mem.2 ⟨hlt, h⟩)⟩
        clear hr
        go_wp2_with (first
            | ((with_reducible refine isLoad ?_); refine ldA (hT := rWks) H ?_))
        refine (fitClear_any _ ps ss ws p s 0 m _ (Lib.hid (W0.out.below H.out.bel)) G1 HS P1 SOKs WLK (by omega) (by omega) (by rw [HNW.out]; omega) H.out.tb).mono ?_
        rintro _ _ ⟨rfl, hb⟩
        replace H := Lib.hid (H.out.go hb)
        clear hb
        rw [HR.out]
        have E00 : Hid (((0 : Int) : Rat) = 0) := rfl
        cases r with
        | true =>
          have CP : Hid (ClrP p s ws) := clrB_iff.1 HR.out
          have HT2 : Hid (clrB p s.tight ws = true) := clrB_iff.2 (clr_less P1 SOKs WLK.out CP.out).2
          have HAP : Hid (∀ x ∈ ws, FitT.Apt (plc p s) x.l) := (clr_less P1 SOKs WLK.out CP.out).1
          go_wp2_with (first
              | go_skip)
          refine (containsN_any (X := [_]) RI H m _ HM).mono ?_
          rintro _ _ ⟨rfl, rfl⟩
          go_wp2_with (first
              | ((with_reducible refine isLoad ?_); refine ldA (hT := rWks) H ?_))
          by_cases hw0 : nw = 0
          · have td : decide ((0 : Int) < (nw : Int)) = false := decide_eq_false (by omega)
            have tn : ¬ ((0 : Int) < (nw : Int)) := by omega
            have te : ((nw : Int) == 0) = true := beq_iff_eq.2 (by omega)
            have HW0 := Lib.hid hw0
            clear hw0
            refine (fitApart0_any _ ps ss ws p s 0 m _ (Lib.hid (W0.out.below H.out.bel)) G1 HS P1 SOKs WLK (by omega) (by omega) (by rw [HNW.out]; omega) H.out.tb (by rw [HNW.out]; exact HW0.out)).mono ?_
            rintro _ _ ⟨rfl, hb⟩
            replace H := Lib.hid (H.out.go hb)
            clear hb
            go_wp2_with (first
                | ((with_reducible refine isLoad ?_); refine ld1A (hT := kSlots) H ?_)
                | ((with_reducible refine isLoad ?_); refine ld1A (hT := kWalls) H ?_)
                | ((with_reducible refine isLoad ?_); refine ldA (hT := rWks) H ?_)
                | ((with_reducible refine isAlloc ?_); refine alA (hz := zWks) H ?_; clear H; intro _ _ H)
                | ((with_reducible refine isStore ?_); refine stA (hT := rWks) H ?_; clear H; intro _ H)
                | ((with_reducible refine isStore ?_); refine stA H ?_; clear H; intro _ H)
                | ((with_reducible refine isAlloc ?_); refine alA H ?_; clear H; intro _ _ H))
            refine (clone_any a4 ss.length c4 ss _ (Lib.hid (RSH.out.below H.out.bel)) hns (by omega) H.out.tb).mono ?_
            rintro _ _ ⟨gc, kc, curC, rfl, hRC, hC⟩
            have RC := Lib.hid hRC
            replace H := Lib.hid (H.out.join hC)
            simp only [List.cons_append, List.nil_append] at H
            clear hRC hC
            go_wp2_with (first
                | ((with_reducible refine isStore ?_); refine st1A (hT := sSlots) H ?_; clear H; intro _ H))
            refine wp_region_T 6 H (by kernel_rfl) (by kernel_rfl) ?_
            simp only [List.take_succ_cons, List.take_zero, List.drop_succ_cons, List.drop_zero]
            repeat (first
                | ((with_reducible refine kLoad ?_); refine kld1A (hT := kSlots) H ?_)
                | ((fail_if_success (with_reducible refine kCall ?_)); (with_reducible refine kCons ?_); refine wpK_step (fun K hK => ?_); go_simp; refine hK _ ?_; clear hK K))
            refine wpK_step (fun K hK => ?_)
            go_simp
            apply Exists.intro
            refine ⟨fun sx => ?_, hK _ ?_⟩
            · go_at_call 22
              exact ROf_any 0 0 _ (by decide) (by decide) E00 (H.out.tbx sx)
            clear hK K
            repeat (first
                | ((fail_if_success (with_reducible refine kCall ?_)); (with_reducible refine kCons ?_); refine wpK_step (fun K hK => ?_); go_simp; refine hK _ ?_; clear hK K))
            refine wpKeep_nil ?_
            clear H
            intro _ H
            go_wp2_with (first
                | ((with_reducible refine isStore ?_); refine stTight H RC HS (by (repeat (first | apply Upd.head | apply Upd.tail | assumption))) (fun W9 H9 => ?_) rRat; clear H; have H := H9; clear H9)
                | ((with_reducible refine isLoad ?_); refine ldA (hT := rWks) H ?_))
            refine (fitClear_any _ ps (ss.set m s.tight) ws p s.tight 0 m _ (Lib.hid (wk_tight HNW.out (RWH.out.below H.out.bel) (RPH.out.below H.out.bel) m s.tight (RC.out.tight HS.out).1 (H.out.blk (gc, 52, _) (by (repeat (first | exact List.Mem.head _ | refine List.Mem.tail _ ?_ | assumption)))).2 (fun q hq => (HPLH.out q hq).below H.out.bel) (fun q hq => (HWLH.out q hq).below H.out.bel))) G1 Ht P1 SOKs.tight WLK (by omega) (by rw [List.length_set]; omega) (by rw [HNW.out]; omega) H.out.tb).mono ?_
            rintro _ _ ⟨rfl, hb⟩
            replace H := Lib.hid (H.out.go hb)
            clear hb
            rw [HT2.out]
            go_wp2_with (first
                | go_skip)
            replace H := Lib.hid H.out.drop.drop.drop
            go_roundw
            case rel => exact ⟨m + 1, by go_num, by omega, H⟩
            case measure => simp [intOf]; omega
          · have td : decide ((0 : Int) < (nw : Int)) = true := decide_eq_true (by omega)
            have tn : (0 : Int) < (nw : Int) := by omega
            have te : ((nw : Int) == 0) = false := beq_false_of_ne (by omega)
            have HW0 := Lib.hid hw0
            clear hw0
            refine (fitApart1_any _ ps ss ws p s 0 m _ (Lib.hid (W0.out.below H.out.bel)) G1 HS P1 SOKs WLK (by omega) (by omega) (by rw [HNW.out]; omega) H.out.tb (by rw [HNW.out]; exact Nat.pos_of_ne_zero HW0.out)).mono ?_
            rintro _ _ ⟨⟨z, rfl, hz1, hz2⟩, hb⟩
            replace H := Lib.hid (H.out.go hb)
            have HZ := Lib.hid hz1
            have HZ2 := Lib.hid hz2
            clear hb hz1 hz2
            have HZP : Hid (0 < z) := HZ2.out HAP.out
            go_wp2_with (first
                | ((with_reducible refine isLoad ?_); refine ld1A (hT := kWalls) H ?_)
                | ((with_reducible refine isLoad ?_); refine ldA H ?_)
                | ((with_reducible refine isStore ?_); refine stA H ?_; clear H; intro _ H)
                | ((with_reducible refine isAlloc ?_); refine alA H ?_; clear H; intro _ _ H))
            refine (RSign_any (some z) 1 _ (Sz.o HZ.out (by decide)) (Lib.hid (cmpQ_gt HZP.out)) H.out.tb).mono ?_
            rintro _ _ ⟨rfl, hb⟩
            replace H := Lib.hid (H.out.go hb)
            clear hb
            go_wp2_with (first
                | ((with_reducible refine isLoad ?_); refine ld1A (hT := kSlots) H ?_)
                | ((with_reducible refine isLoad ?_); refine ld1A (hT := kWalls) H ?_)
                | ((with_reducible refine isLoad ?_); refine ldA (hT := rWks) H ?_)
                | ((with_reducible refine isAlloc ?_); refine alA (hz := zWks) H ?_; clear H; intro _ _ H)
                | ((with_reducible refine isStore ?_); refine stA (hT := rWks) H ?_; clear H; intro _ H))
            refine (clone_any a4 ss.length c4 ss _ (Lib.hid (RSH.out.below H.out.bel)) hns (by omega) H.out.tb).mono ?_
            rintro _ _ ⟨gc, kc, curC, rfl, hRC, hC⟩
            have RC := Lib.hid hRC
            replace H := Lib.hid (H.out.join hC)
            simp only [List.cons_append, List.nil_append] at H
            clear hRC hC
            go_wp2_with (first
                | ((with_reducible refine isStore ?_); refine st1A (hT := sSlots) H ?_; clear H; intro _ H))
            refine wp_region_T 6 H (by kernel_rfl) (by kernel_rfl) ?_
            simp only [List.take_succ_cons, List.take_zero, List.drop_succ_cons, List.drop_zero]
            repeat (first
                | ((with_reducible refine kLoad ?_); refine kld1A (hT := kSlots) H ?_)
                | ((fail_if_success (with_reducible refine kCall ?_)); (with_reducible refine kCons ?_); refine wpK_step (fun K hK => ?_); go_simp; refine hK _ ?_; clear hK K))
            refine wpK_step (fun K hK => ?_)
            go_simp
            apply Exists.intro
            refine ⟨fun sx => ?_, hK _ ?_⟩
            · go_at_call 22
              exact ROf_any 0 0 _ (by decide) (by decide) E00 (H.out.tbx sx)
            clear hK K
            repeat (first
                | ((fail_if_success (with_reducible refine kCall ?_)); (with_reducible refine kCons ?_); refine wpK_step (fun K hK => ?_); go_simp; refine hK _ ?_; clear hK K))
            refine wpKeep_nil ?_
            clear H
            intro _ H
            go_wp2_with (first
                | ((with_reducible refine isStore ?_); refine stTight H RC HS (by (repeat (first | apply Upd.head | apply Upd.tail | assumption))) (fun W9 H9 => ?_) rRat; clear H; have H := H9; clear H9)
                | ((with_reducible refine isLoad ?_); refine ldA (hT := rWks) H ?_))
            refine (fitClear_any _ ps (ss.set m s.tight) ws p s.tight 0 m _ (Lib.hid (wk_tight HNW.out (RWH.out.below H.out.bel) (RPH.out.below H.out.bel) m s.tight (RC.out.tight HS.out).1 (H.out.blk (gc, 52, _) (by (repeat (first | exact List.Mem.head _ | refine List.Mem.tail _ ?_ | assumption)))).2 (fun q hq => (HPLH.out q hq).below H.out.bel) (fun q hq => (HWLH.out q hq).below H.out.bel))) G1 Ht P1 SOKs.tight WLK (by omega) (by rw [List.length_set]; omega) (by rw [HNW.out]; omega) H.out.tb).mono ?_
            rintro _ _ ⟨rfl, hb⟩
            replace H := Lib.hid (H.out.go hb)
            clear hb
            rw [HT2.out]
            go_wp2_with (first
                | go_skip)
            replace H := Lib.hid H.out.drop.drop.drop
            go_roundw
            case rel => exact ⟨m + 1, by go_num, by omega, H⟩
            case measure => simp [intOf]; omega
        | false =>
          go_wp2_with (first
              | go_skip)
          refine (containsN_any (X := [_]) RI H m _ HM).mono ?_
          rintro _ _ ⟨rfl, rfl⟩
          go_wp2_with (first
              | ((with_reducible refine isLoad ?_); refine ldA (hT := rWks) H ?_))
          by_cases hw0 : nw = 0
          · exfalso
            have e : ws = [] := List.eq_nil_of_length_eq_zero (by rw [HNW.out]; exact hw0)
            have h1 : clrB p s ws = true := clrB_iff.2 (by rw [e]; exact ClrP.nil p s)
            rw [HR.out] at h1
            cases h1
          · have td : decide ((0 : Int) < (nw : Int)) = true := decide_eq_true (by omega)
            have tn : (0 : Int) < (nw : Int) := by omega
            have te : ((nw : Int) == 0) = false := beq_false_of_ne (by omega)
            have HW0 := Lib.hid hw0
            clear hw0
            refine (fitApart1_any _ ps ss ws p s 0 m _ (Lib.hid (W0.out.below H.out.bel)) G1 HS P1 SOKs WLK (by omega) (by omega) (by rw [HNW.out]; omega) H.out.tb (by rw [HNW.out]; exact Nat.pos_of_ne_zero HW0.out)).mono ?_
            rintro _ _ ⟨⟨z, rfl, hz1, hz2⟩, hb⟩
            replace H := Lib.hid (H.out.go hb)
            have HZ := Lib.hid hz1
            have HZ2 := Lib.hid hz2
            clear hb hz1 hz2
            go_wp2_with (first
                | ((with_reducible refine isLoad ?_); refine ld1A (hT := kSlots) H ?_)
                | ((with_reducible refine isLoad ?_); refine ld1A (hT := kWalls) H ?_)
                | ((with_reducible refine isLoad ?_); refine ldA (hT := rWks) H ?_)
                | ((with_reducible refine isAlloc ?_); refine alA (hz := zWks) H ?_; clear H; intro _ _ H)
                | ((with_reducible refine isStore ?_); refine stA (hT := rWks) H ?_; clear H; intro _ H)
                | ((with_reducible refine isStore ?_); refine stA H ?_; clear H; intro _ H)
                | ((with_reducible refine isAlloc ?_); refine alA H ?_; clear H; intro _ _ H))
            refine (clone_any a4 ss.length c4 ss _ (Lib.hid (RSH.out.below H.out.bel)) hns (by omega) H.out.tb).mono ?_
            rintro _ _ ⟨gc, kc, curC, rfl, hRC, hC⟩
            have RC := Lib.hid hRC
            replace H := Lib.hid (H.out.join hC)
            simp only [List.cons_append, List.nil_append] at H
            clear hRC hC
            go_wp2_with (first
                | ((with_reducible refine isStore ?_); refine st1A (hT := sSlots) H ?_; clear H; intro _ H))
            refine wp_region_T 6 H (by kernel_rfl) (by kernel_rfl) ?_
            simp only [List.take_succ_cons, List.take_zero, List.drop_succ_cons, List.drop_zero]
            repeat (first
                | ((with_reducible refine kLoad ?_); refine kld1A (hT := kSlots) H ?_)
                | ((fail_if_success (with_reducible refine kCall ?_)); (with_reducible refine kCons ?_); refine wpK_step (fun K hK => ?_); go_simp; refine hK _ ?_; clear hK K))
            refine wpK_step (fun K hK => ?_)
            go_simp
            apply Exists.intro
            refine ⟨fun sx => ?_, hK _ ?_⟩
            · go_at_call 22
              exact ROf_any 0 0 _ (by decide) (by decide) E00 (H.out.tbx sx)
            clear hK K
            repeat (first
                | ((fail_if_success (with_reducible refine kCall ?_)); (with_reducible refine kCons ?_); refine wpK_step (fun K hK => ?_); go_simp; refine hK _ ?_; clear hK K))
            refine wpKeep_nil ?_
            clear H
            intro _ H
            go_wp2_with (first
                | ((with_reducible refine isStore ?_); refine stTight H RC HS (by (repeat (first | apply Upd.head | apply Upd.tail | assumption))) (fun W9 H9 => ?_) rRat; clear H; have H := H9; clear H9)
                | ((with_reducible refine isLoad ?_); refine ldA (hT := rWks) H ?_))
            refine (fitClear_any _ ps (ss.set m s.tight) ws p s.tight 0 m _ (Lib.hid (wk_tight HNW.out (RWH.out.below H.out.bel) (RPH.out.below H.out.bel) m s.tight (RC.out.tight HS.out).1 (H.out.blk (gc, 52, _) (by (repeat (first | exact List.Mem.head _ | refine List.Mem.tail _ ?_ | assumption)))).2 (fun q hq => (HPLH.out q hq).below H.out.bel) (fun q hq => (HWLH.out q hq).below H.out.bel))) G1 Ht P1 SOKs.tight WLK (by omega) (by rw [List.length_set]; omega) (by rw [HNW.out]; omega) H.out.tb).mono ?_
            rintro _ _ ⟨rfl, hb⟩
            replace H := Lib.hid (H.out.go hb)
            clear hb
            go_wp2_with (first
                | go_skip)
            replace H := Lib.hid H.out.drop.drop.drop
            go_roundw
            case rel => exact ⟨m + 1, by go_num, by omega, H⟩
            case measure => simp [intOf]; omega
      · have hmn : m = ss.length := by omega
        subst hmn
        go_wp2_with (first
            | go_skip)
        go_ret
        exact ⟨rfl, (H0.out.join H.out).bel⟩
  · have dne : decide (0 < ps.length ∧ 0 < ss.length) = false := decide_eq_false hne
    rw [dne]
    clear dne
    clear RW RP RS HPL HWL
    go_wp2_with (first
        | ((with_reducible refine isAlloc ?_); refine alA (hz := zWks) H ?_; clear H; intro _ _ H)
        | ((with_reducible refine isStore ?_); refine stA (hT := rWks) H ?_; clear H; intro _ H))
    refine (fitted_any _ H.out.tb).mono ?_
    rintro _ _ ⟨rfl, hb⟩
    replace H := Lib.hid (H.out.go hb)
    clear hb
    go_wp2_with (first
        | go_skip)
    refine (fitted_any _ H.out.tb).mono ?_
    rintro _ _ ⟨rfl, hb⟩
    replace H := Lib.hid (H.out.go hb)
    clear hb
    go_wp2_with (first
        | go_skip)
    go_ret
    exact ⟨rfl, (H0.out.join H.out).bel⟩
theorem fitClear_core (S : Sd) (w : World) (hS : S.ok w) (hT : Tb w) :
    Calls Tryz.prog 5 #[.slice S.A S.xs.length S.c] w fun e w' => e = .returned (.bool true) ∧ Go.RowKit.Below w.heap.size w w' :=
  (clear_core S  w (Lib.hid hS)  hT).mono fun _ _ h => ⟨h.1, h.2.os, h.2.tape, h.2.output, h.2.size, h.2.block⟩
end Go.Proofs.YtmfejdikfpckdaaGreatDoor
