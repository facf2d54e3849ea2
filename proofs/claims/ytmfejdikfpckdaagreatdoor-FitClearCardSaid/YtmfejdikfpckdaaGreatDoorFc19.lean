/- apart.toEdge. Printed by gen/fito.py. · apart.near. Printed by gen/fito.py. · apart.Sq. Printed by gen/fito.py. · A works as it lies in memory: parts, slots, walls. No walk. · append of cells that are known, to a slice whose row is the call's own; slices.Clone at slots. · slices.Clone at slots. Printed by gen/fitq.py. · gantmake.Rat. Printed by gen/seep.py. · gantmake.Vec. Printed by gen/seep.py. · gantmake.poly. Printed by gen/seep.py. · gantmake.Poly. Printed by gen/seep.py. -/
import Derived.Test.YtmfejdikfpckdaaGreatDoorFc18
import Derived.Test.YtmfejdikfpckdaaGreatDoorFc17
namespace Go.Proofs.YtmfejdikfpckdaaGreatDoor
open Go.RowKit
set_option linter.unusedVariables false
set_option maxRecDepth 100000

set_option maxHeartbeats 16000000 in
theorem toEdge_any {k : Nat} (p1 p2 a1 a2 b1 b2 v : Rat) (w : World) (hk : k ≤ 300) (Zp1 : Hid (Sz k p1)) (Zp2 : Hid (Sz k p2)) (Za1 : Hid (Sz k a1)) (Za2 : Hid (Sz k a2)) (Zb1 : Hid (Sz k b1)) (Zb2 : Hid (Sz k b2)) (hab : Hid ((a1, a2) ≠ (b1, b2))) (Ev : Hid (FitT.toEdgeV (p1, p2) (a1, a2) (b1, b2) = v)) (hT : Tb w) :
    Calls Tryz.prog 90 #[.agg #[.bool (sgO (some p1)), .string (nuO (some p1)), .string (deO (some p1)), .bool (sgO (some p2)), .string (nuO (some p2)), .string (deO (some p2))], .agg #[.bool (sgO (some a1)), .string (nuO (some a1)), .string (deO (some a1)), .bool (sgO (some a2)), .string (nuO (some a2)), .string (deO (some a2))], .agg #[.bool (sgO (some b1)), .string (nuO (some b1)), .string (deO (some b1)), .bool (sgO (some b2)), .string (nuO (some b2)), .string (deO (some b2))]] w fun e w' => e = .returned (.agg #[.bool (sgO (some v)), .string (nuO (some v)), .string (deO (some v))]) ∧ Below w.heap.size w w' := by
  have H := Lib.hid (Hp.start hT)
  clear hT
  obtain ⟨ex, Eex⟩ : ∃ z : Rat, Hid (b1 - a1 = z) := ⟨_, rfl⟩
  have Zex : Hid (Sz (k + k + 1) ex) := szEq Eex (Sz.sub Zb1 Za1)
  obtain ⟨ey, Eey⟩ : ∃ z : Rat, Hid (b2 - a2 = z) := ⟨_, rfl⟩
  have Zey : Hid (Sz (k + k + 1) ey) := szEq Eey (Sz.sub Zb2 Za2)
  obtain ⟨dx, Edx⟩ : ∃ z : Rat, Hid (p1 - a1 = z) := ⟨_, rfl⟩
  have Zdx : Hid (Sz (k + k + 1) dx) := szEq Edx (Sz.sub Zp1 Za1)
  obtain ⟨dy, Edy⟩ : ∃ z : Rat, Hid (p2 - a2 = z) := ⟨_, rfl⟩
  have Zdy : Hid (Sz (k + k + 1) dy) := szEq Edy (Sz.sub Zp2 Za2)
  obtain ⟨fx, Efx⟩ : ∃ z : Rat, Hid (p1 - b1 = z) := ⟨_, rfl⟩
  have Zfx : Hid (Sz (k + k + 1) fx) := szEq Efx (Sz.sub Zp1 Zb1)
  obtain ⟨fy, Efy⟩ : ∃ z : Rat, Hid (p2 - b2 = z) := ⟨_, rfl⟩
  have Zfy : Hid (Sz (k + k + 1) fy) := szEq Efy (Sz.sub Zp2 Zb2)
  obtain ⟨t, Et⟩ : ∃ z : Rat, Hid (dx * ex + dy * ey = z) := ⟨_, rfl⟩
  obtain ⟨s, Es⟩ : ∃ z : Rat, Hid (ex * ex + ey * ey = z) := ⟨_, rfl⟩
  obtain ⟨c, Ec⟩ : ∃ z : Rat, Hid (ex * dy - ey * dx = z) := ⟨_, rfl⟩
  obtain ⟨cc, Ecc⟩ : ∃ z : Rat, Hid (c * c = z) := ⟨_, rfl⟩
  have Zt : Hid (Sz (8 * k + 5) t) := szEq Et ((Sz.add (Sz.mul Zdx Zex) (Sz.mul Zdy Zey)).mono (by omega))
  have Zs : Hid (Sz (8 * k + 5) s) := szEq Es ((Sz.add (Sz.mul Zex Zex) (Sz.mul Zey Zey)).mono (by omega))
  have Zc : Hid (Sz (8 * k + 5) c) := szEq Ec ((Sz.sub (Sz.mul Zex Zdy) (Sz.mul Zey Zdx)).mono (by omega))
  have Zcc : Hid (Sz (8 * k + 5 + (8 * k + 5)) cc) := szEq Ecc (Sz.mul Zc Zc)
  have St : SmO (some t) := Sz.o Zt (by omega)
  have Ss : SmO (some s) := Sz.o Zs (by omega)
  have Sc : SmO (some c) := Sz.o Zc (by omega)
  have Scc : SmO (some cc) := Sz.o Zcc (by omega)
  have s0 : Hid (valO (some s) ≠ 0) := by
    have h := FitT.dot_pos (p := (b1, b2)) (a := (a1, a2)) (fun e => hab.out e.symm)
    have h1 := Es.out; have h2 := Eex.out; have h3 := Eey.out
    subst h1; subst h2; subst h3
    intro e
    have h4 : FitT.dot (FitT.vsub (b1, b2) (a1, a2)) (FitT.vsub (b1, b2) (a1, a2)) = 0 := e
    rw [h4] at h
    exact absurd h (by decide)
  have EV : Hid ((if t ≤ 0 then dx * dx + dy * dy else if s ≤ t then fx * fx + fy * fy else cc / s) = v) := by
    have h0 := Ev.out; have h1 := Et.out; have h2 := Es.out; have h3 := Ec.out; have h4 := Ecc.out; have h5 := Eex.out; have h6 := Eey.out; have h7 := Edx.out; have h8 := Edy.out; have h9 := Efx.out; have h10 := Efy.out
    subst_vars
    rfl
  obtain ⟨sg, Esg⟩ : ∃ q, Hid (cmpQ (valO (some t)) 0 = q) := ⟨_, rfl⟩
  obtain ⟨cm, Ecm⟩ : ∃ q, Hid (cmpQ (valO (some t)) (valO (some s)) = q) := ⟨_, rfl⟩
  have G1 : Hid (sg ≤ 0 ↔ t ≤ 0) := by rw [← Esg.out]; exact cmpQ_le
  have G2 : Hid (0 ≤ cm ↔ s ≤ t) := by rw [← Ecm.out]; exact cmpQ_ge
  clear Ev hab
  go_enter Tryz.func90, Tryz.ntmps90
  go_wp2_with (first
      | ((with_reducible refine isBox ?_); refine bxA H ?_; clear H; intro _ _ H)
      | ((with_reducible refine isAlloc ?_); refine alA H ?_; clear H; intro _ _ H))
  refine wp_region_U 6 9 [.a, .a, .s] H (by kernel_rfl) (by kernel_rfl) (by kernel_rfl) (by decide) ?_
  simp only [List.take_succ_cons, List.take_zero, List.drop_succ_cons, List.drop_zero]
  repeat (first
      | ((with_reducible refine kLoad ?_); refine kldA H ?_))
  refine wpK_step (fun K hK => ?_)
  go_simp
  apply Exists.intro
  refine ⟨fun sx => ?_, hK _ ?_⟩
  · go_at_call 68
    exact vecSub_any (some b1) (some b2) (some a1) (some a2) ex ey _ (by omega) Zb1 Zb2 Za1 Za2 Eex Eey (H.out.tbx sx)
  clear hK K
  repeat (first
      | ((with_reducible refine kLoad ?_); refine kldA H ?_))
  refine wpK_step (fun K hK => ?_)
  go_simp
  apply Exists.intro
  refine ⟨fun sx => ?_, hK _ ?_⟩
  · go_at_call 68
    exact vecSub_any (some p1) (some p2) (some a1) (some a2) dx dy _ (by omega) Zp1 Zp2 Za1 Za2 Edx Edy (H.out.tbx sx)
  clear hK K
  refine wpKeep_nil ?_
  refine wpL_A (by rfl) (by simp [Allocs, go_sem]; intro _ _; rfl) ?_
  intro _
  (simp only [Act.put, List.setIfInBounds_toArray, List.set_cons_succ, List.set_cons_zero])
  refine wpL_A (by rfl) (by simp [Allocs, go_sem]; intro _ _; rfl) ?_
  intro _
  (simp only [Act.put, List.setIfInBounds_toArray, List.set_cons_succ, List.set_cons_zero])
  refine wpL_S (by rfl) rfl rfl rfl (by (first | exact rRat | exact rSpan | exact rPose | exact rFrame | exact rVec | exact rTurn | exact rBox)) (by rfl) (by rfl) (by (repeat (first | apply Upd.head | apply Upd.tail | assumption))) (by rfl) (by (simp only [List.drop, List.take, List.nil_append, List.cons_append]); rfl) (by exact Nat.le_of_ble_eq_true rfl) (by rfl) ?_
  refine wpL_nil ?_
  clear H
  intro _ H
  go_wp2_with (first
      | ((with_reducible refine isLoad ?_); refine ldA H ?_)
      | ((with_reducible refine isStore ?_); refine stA H ?_; clear H; intro _ H))
  refine (vecDot_any (k := k + k + 1) dx dy ex ey t _ (by omega) Zdx Zdy Zex Zey Et H.out.tb).mono ?_
  rintro _ _ ⟨rfl, hb⟩
  replace H := Lib.hid (H.out.go hb)
  clear hb
  go_wp2_with (first
      | ((with_reducible refine isLoad ?_); refine ldA H ?_)
      | ((with_reducible refine isStore ?_); refine stA H ?_; clear H; intro _ H)
      | ((with_reducible refine isAlloc ?_); refine alA H ?_; clear H; intro _ _ H))
  refine (vecDot_any (k := k + k + 1) ex ey ex ey s _ (by omega) Zex Zey Zex Zey Es H.out.tb).mono ?_
  rintro _ _ ⟨rfl, hb⟩
  replace H := Lib.hid (H.out.go hb)
  clear hb
  go_wp2_with (first
      | ((with_reducible refine isLoad ?_); refine ldA H ?_)
      | ((with_reducible refine isStore ?_); refine stA H ?_; clear H; intro _ H)
      | ((with_reducible refine isAlloc ?_); refine alA H ?_; clear H; intro _ _ H))
  rename_i g10 W10 V10 K8 hK8 K8b hK8b K8c hK8c
  by_cases hs : sg ≤ 0
  · have Ev : Hid (dx * dx + dy * dy = v) := by have h := EV.out; rw [if_pos (G1.out.1 hs)] at h; exact h
    refine (RSign_any (some t) sg _ St Esg H.out.tb).mono ?_
    rintro _ _ ⟨rfl, hb⟩
    replace H := Lib.hid (H.out.go hb)
    clear hb
    go_wp2_with (first
        | ((with_reducible refine isLoad ?_); refine ldA H ?_))
    refine (vecDot_any (k := k + k + 1) dx dy dx dy v _ (by omega) Zdx Zdy Zdx Zdy Ev H.out.tb).mono ?_
    rintro _ _ ⟨rfl, hb⟩
    replace H := Lib.hid (H.out.go hb)
    clear hb
    go_wp2_with (first
        | ((with_reducible refine isStore ?_); refine stA H ?_; clear H; intro _ H))
    exact bodyPost_ret (results_H H Tryz.results90 (by (first | exact rRat | exact rSpan | exact rPose | exact rFrame | exact rVec | exact rTurn | exact rBox)) rfl (by (repeat (first | exact List.Mem.head _ | refine List.Mem.tail _ ?_ | assumption))) (by rfl)) rfl ⟨rfl, H.out.bel⟩
  · by_cases hc : 0 ≤ cm
    · have Ev : Hid (fx * fx + fy * fy = v) := by have h := EV.out; rw [if_neg (fun g => hs (G1.out.2 g)), if_pos (G2.out.1 hc)] at h; exact h
      refine (RSign_any (some t) sg _ St Esg H.out.tb).mono ?_
      rintro _ _ ⟨rfl, hb⟩
      replace H := Lib.hid (H.out.go hb)
      clear hb
      go_wp2_with (first
          | ((with_reducible refine isLoad ?_); refine ldA H ?_))
      refine (RCmp_any (some t) (some s) cm _ St Ss Ecm H.out.tb).mono ?_
      rintro _ _ ⟨rfl, hb⟩
      replace H := Lib.hid (H.out.go hb)
      clear hb
      go_wp2_with (first
          | ((with_reducible refine isLoad ?_); refine ldA H ?_))
      refine (vecSub_any (some p1) (some p2) (some b1) (some b2) fx fy _ (by omega) Zp1 Zp2 Zb1 Zb2 Efx Efy H.out.tb).mono ?_
      rintro _ _ ⟨rfl, hb⟩
      replace H := Lib.hid (H.out.go hb)
      clear hb
      go_wp2_with (first
          | ((with_reducible refine isLoad ?_); refine ldA H ?_)
          | ((with_reducible refine isStore ?_); refine stA H ?_; clear H; intro _ H)
          | ((with_reducible refine isAlloc ?_); refine alA H ?_; clear H; intro _ _ H))
      refine (vecDot_any (k := k + k + 1) fx fy fx fy v _ (by omega) Zfx Zfy Zfx Zfy Ev H.out.tb).mono ?_
      rintro _ _ ⟨rfl, hb⟩
      replace H := Lib.hid (H.out.go hb)
      clear hb
      go_wp2_with (first
          | ((with_reducible refine isStore ?_); refine stA H ?_; clear H; intro _ H))
      exact bodyPost_ret (results_H H Tryz.results90 (by (first | exact rRat | exact rSpan | exact rPose | exact rFrame | exact rVec | exact rTurn | exact rBox)) rfl (by (repeat (first | exact List.Mem.head _ | refine List.Mem.tail _ ?_ | assumption))) (by rfl)) rfl ⟨rfl, H.out.bel⟩
    · have Ev : Hid (valO (some cc) / valO (some s) = v) := by have h := EV.out; rw [if_neg (fun g => hs (G1.out.2 g)), if_neg (fun g => hc (G2.out.2 g))] at h; exact h
      refine (RSign_any (some t) sg _ St Esg H.out.tb).mono ?_
      rintro _ _ ⟨rfl, hb⟩
      replace H := Lib.hid (H.out.go hb)
      clear hb
      go_wp2_with (first
          | ((with_reducible refine isLoad ?_); refine ldA H ?_))
      refine (RCmp_any (some t) (some s) cm _ St Ss Ecm H.out.tb).mono ?_
      rintro _ _ ⟨rfl, hb⟩
      replace H := Lib.hid (H.out.go hb)
      clear hb
      go_wp2_with (first
          | ((with_reducible refine isLoad ?_); refine ldA H ?_))
      refine (vecCross_any (k := k + k + 1) ex ey dx dy c _ (by omega) Zex Zey Zdx Zdy Ec H.out.tb).mono ?_
      rintro _ _ ⟨rfl, hb⟩
      replace H := Lib.hid (H.out.go hb)
      clear hb
      go_wp2_with (first
          | ((with_reducible refine isStore ?_); refine stA H ?_; clear H; intro _ H)
          | ((with_reducible refine isAlloc ?_); refine alA H ?_; clear H; intro _ _ H))
      rename_i g12 W12 V12 K9 hK9
      refine wp_region_YF [.c (.agg #[.bool (sgO (some c)), .string (nuO (some c)), .string (deO (some c))]), .c (.agg #[.bool (sgO (some c)), .string (nuO (some c)), .string (deO (some c))]), .y, .c (.agg #[.bool (sgO (some s)), .string (nuO (some s)), .string (deO (some s))]), .y, .y, .y, .c (.int .i64 0), .a, .y, .c (.int .i64 0)] ([(g12, 29, [.bool (sgO (some c)), .string (nuO (some c)), .string (deO (some c))]), (g10, 29, [.bool (sgO (some s)), .string (nuO (some s)), .string (deO (some s))])]) H (by (repeat (first | exact List.Sublist.refl _ | exact List.nil_sublist _ | exact List.sublist_append_right _ _ | refine List.Sublist.cons_cons _ ?_ | refine List.Sublist.cons _ ?_))) (by kernel_rfl) (by kernel_rfl) (by kernel_rfl) ?_
      refine wpY_load (by rfl) (by rfl) (by (first | exact wanted_none rfl | exact wanted_some rfl rfl)) rRat (by rfl) (by (repeat (first | exact List.Mem.head _ | refine List.Mem.tail _ ?_ | assumption))) (by first | rfl | ((simp only [List.drop, List.take]); rfl)) (by rfl) ?_
      (simp only [Act.put, List.setIfInBounds_toArray, List.set_cons_succ, List.set_cons_zero])
      refine wpY_load (by rfl) (by rfl) (by (first | exact wanted_none rfl | exact wanted_some rfl rfl)) rRat (by rfl) (by (repeat (first | exact List.Mem.head _ | refine List.Mem.tail _ ?_ | assumption))) (by first | rfl | ((simp only [List.drop, List.take]); rfl)) (by rfl) ?_
      (simp only [Act.put, List.setIfInBounds_toArray, List.set_cons_succ, List.set_cons_zero])
      refine wpY_y (by rfl) (by (first | exact wanted_none rfl | exact wanted_some rfl rfl)) (fun G F W HF hG => ?_)
      go_simp
      unfold upY
      refine Calls.mono (RMul_any (some c) (some c) cc _ Sc Sc Ecc HF.out.tb) ?_
      rintro _ W2 ⟨rfl, hb⟩
      refine ⟨_, rfl, hG _ W2 _ (HF.out.go hb) (by (repeat (first | exact List.Sublist.refl _ | exact List.nil_sublist _ | exact List.sublist_append_right _ _ | refine List.Sublist.cons_cons _ ?_ | refine List.Sublist.cons _ ?_))) (fun x _ => Iff.rfl) ?_⟩
      clear hG hb HF
      clear G F W W2
      (simp only [Act.put, List.setIfInBounds_toArray, List.set_cons_succ, List.set_cons_zero])
      refine wpY_load (by rfl) (by rfl) (by (first | exact wanted_none rfl | exact wanted_some rfl rfl)) rRat (by rfl) (by (repeat (first | exact List.Mem.head _ | refine List.Mem.tail _ ?_ | assumption))) (by first | rfl | ((simp only [List.drop, List.take]); rfl)) (by rfl) ?_
      (simp only [Act.put, List.setIfInBounds_toArray, List.set_cons_succ, List.set_cons_zero])
      refine wpY_y (by rfl) (by (first | exact wanted_none rfl | exact wanted_some rfl rfl)) (fun G F W HF hG => ?_)
      go_simp
      unfold upY
      refine Calls.mono (RDiv_any (some cc) (some s) v _ Scc Ss s0.out Ev HF.out.tb) ?_
      rintro _ W2 ⟨rfl, hb⟩
      refine ⟨_, rfl, hG _ W2 _ (HF.out.go hb) (by (repeat (first | exact List.Sublist.refl _ | exact List.nil_sublist _ | exact List.sublist_append_right _ _ | refine List.Sublist.cons_cons _ ?_ | refine List.Sublist.cons _ ?_))) (fun x _ => Iff.rfl) ?_⟩
      clear hG hb HF
      clear G F W W2
      (simp only [Act.put, List.setIfInBounds_toArray, List.set_cons_succ, List.set_cons_zero])
      refine wpY_p (by rfl) (by (repeat (first | exact List.Sublist.refl _ | exact List.nil_sublist _ | exact List.sublist_append_right _ _ | refine List.Sublist.cons_cons _ ?_ | refine List.Sublist.cons _ ?_))) (by (first | exact wanted_none rfl | exact wanted_some rfl rfl)) (by intro W; first | (go_simp; rfl) | go_simp) ?_
      (simp only [Act.put, List.setIfInBounds_toArray, List.set_cons_succ, List.set_cons_zero])
      refine wpY_p (by rfl) (by (repeat (first | exact List.Sublist.refl _ | exact List.nil_sublist _ | exact List.sublist_append_right _ _ | refine List.Sublist.cons_cons _ ?_ | refine List.Sublist.cons _ ?_))) (by (first | exact wanted_none rfl | exact wanted_some rfl rfl)) (by intro W; first | (go_simp; rfl) | go_simp) ?_
      (simp only [Act.put, List.setIfInBounds_toArray, List.set_cons_succ, List.set_cons_zero])
      refine wpY_c (by rfl) (by (first | exact wanted_none rfl | exact wanted_some rfl rfl)) (by intro W _; first | (go_simp; rfl) | (go_simp; done) | (trace_state; fail)) ?_
      (simp only [Act.put, List.setIfInBounds_toArray, List.set_cons_succ, List.set_cons_zero])
      refine wpY_al (by rfl) (by rfl) (by rfl) zRat (by (simp only [Value.cells]; rfl)) ?_
      intro g13
      (simp only [Act.put, List.setIfInBounds_toArray, List.set_cons_succ, List.set_cons_zero])
      refine wpY_st (by rfl) (by rfl) (by rfl) (by rfl) rRat (by rfl) (by rfl) (by (repeat (first | apply Upd.head | apply Upd.tail | assumption))) (by rfl) (by (simp only [List.drop, List.take, List.nil_append, List.cons_append]); rfl) (by exact Nat.le_of_ble_eq_true rfl) (by rfl) (by (repeat (first | exact List.Sublist.refl _ | exact List.nil_sublist _ | exact List.sublist_append_right _ _ | refine List.Sublist.cons_cons _ ?_ | refine List.Sublist.cons _ ?_))) (by rfl) ?_
      refine wpY_c (by rfl) (by (first | exact wanted_none rfl | exact wanted_some rfl rfl)) (by intro W _; first | (go_simp; rfl) | (go_simp; done) | (trace_state; fail)) ?_
      (simp only [Act.put, List.setIfInBounds_toArray, List.set_cons_succ, List.set_cons_zero])
      refine wpY_nil ?_
      clear H
      intro _ H
      go_wp2_with (first
          | ((with_reducible refine isLoad ?_); refine ldA H ?_)
          | ((with_reducible refine isStore ?_); refine stA H ?_; clear H; intro _ H))
      exact bodyPost_ret (results_H H Tryz.results90 (by (first | exact rRat | exact rSpan | exact rPose | exact rFrame | exact rVec | exact rTurn | exact rBox)) rfl (by (repeat (first | exact List.Mem.head _ | refine List.Mem.tail _ ?_ | assumption))) (by rfl)) rfl ⟨rfl, H.out.bel⟩
end Go.Proofs.YtmfejdikfpckdaaGreatDoor

namespace Go.Proofs.YtmfejdikfpckdaaGreatDoor
open Go.RowKit
set_option linter.unusedVariables false
set_option maxRecDepth 100000

set_option maxHeartbeats 16000000 in
theorem near_any {k : Nat} (p1 p2 v : Rat) (u : Value) (s : List (Rat × Rat)) (w : World) (hk : k ≤ 300) (Zp1 : Hid (Sz k p1)) (Zp2 : Hid (Sz k p2)) (V : Hid (VAt w u s)) (Y : Hid (∀ q ∈ s, Sz k q.1 ∧ Sz k q.2)) (C : Hid (FitT.Cvx s)) (hl : s.length ≤ 1000) (Ev : Hid (nearV (p1, p2) s = v)) (hT : Tb w) :
    Calls Tryz.prog 77 #[.agg #[.bool (sgO (some p1)), .string (nuO (some p1)), .string (deO (some p1)), .bool (sgO (some p2)), .string (nuO (some p2)), .string (deO (some p2))], u] w fun e w' => e = .returned (.agg #[.bool (sgO (some v)), .string (nuO (some v)), .string (deO (some v))]) ∧ Below w.heap.size w w' := by
  have H := Lib.hid (Hp.start hT)
  clear hT
  have h3 := C.out.three
  obtain ⟨b, c, T, more, e, hc, X0⟩ := V.out
  have X := Lib.hid X0
  clear X0 V
  obtain ⟨n, hn⟩ : ∃ n, s.length = n := ⟨_, rfl⟩
  rw [hn] at e hc hl h3
  have HN := Lib.hid hn
  clear hn
  subst e
  obtain ⟨q0, Q0⟩ : ∃ q, Hid (s[0]? = some q) := ⟨_, Lib.hid (List.getElem?_eq_getElem (by rw [HN.out]; omega))⟩
  obtain ⟨q1, Q1⟩ : ∃ q, Hid (s[1]? = some q) := ⟨_, Lib.hid (List.getElem?_eq_getElem (by rw [HN.out]; omega))⟩
  have N01 : Hid ((q0.1, q0.2) ≠ (q1.1, q1.2)) := by
    have h := C.out.ne_next (i := 0) (b := q1) Q0.out (by rw [HN.out, Nat.mod_eq_of_lt (by omega)]; exact Q1.out)
    exact h
  have Zq0 := Y.out q0 (List.mem_of_getElem? Q0.out)
  have Zq1 := Y.out q1 (List.mem_of_getElem? Q1.out)
  obtain ⟨Zq01, Zq02⟩ : Hid (Sz k q0.1) ∧ Hid (Sz k q0.2) := Zq0
  obtain ⟨Zq11, Zq12⟩ : Hid (Sz k q1.1) ∧ Hid (Sz k q1.2) := Zq1
  obtain ⟨z0, E0⟩ : ∃ z, Hid (FitT.toEdgeV (p1, p2) (q0.1, q0.2) (q1.1, q1.2) = z) := ⟨_, rfl⟩
  have EN0 : Hid (nearN (p1, p2) s 0 = z0) := by
    unfold Hid nearN
    rw [getD_some Q0.out, getD_some Q1.out]
    exact E0.out
  have lt0 : 0 < n := by omega
  have lt1 : 1 < n := by omega
  have lt1i : (1 : Int) < (n : Int) := by omega
  have le1i : ¬ ((n : Int) ≤ 1) := by omega
  have le1 : ¬ (n ≤ 1) := by omega
  go_enter Tryz.func77, Tryz.ntmps77
  go_wp2_with (first
      | ((with_reducible refine isBox ?_); refine bxA H ?_; clear H; intro _ _ H)
      | ((with_reducible refine isAlloc ?_); refine alA H ?_; clear H; intro _ _ H))
  refine wp_region_F1 8 H (by kernel_rfl) (by kernel_rfl) rfl (by simp [Allocs, go_sem]; intro _ _; rfl) ?_
  simp only [List.take_succ_cons, List.take_zero, List.drop_succ_cons, List.drop_zero]
  repeat (first
      | ((with_reducible refine kLoad ?_); refine kldW H X 0 Q0 ?_)
      | ((with_reducible refine kLoad ?_); refine kldW H X 1 Q1 ?_)
      | ((with_reducible refine kLoad ?_); refine kldA H ?_)
      | ((fail_if_success (with_reducible refine kCall ?_)); (with_reducible refine kCons ?_); refine wpK_step (fun K hK => ?_); go_simp; refine hK _ ?_; clear hK K))
  refine wpK_step (fun K hK => ?_)
  go_simp
  apply Exists.intro
  refine ⟨fun sx => ?_, hK _ ?_⟩
  · go_at_call 90
    exact toEdge_any (k := k) p1 p2 q0.1 q0.2 q1.1 q1.2 z0 _ hk Zp1 Zp2 Zq01 Zq02 Zq11 Zq12 N01 E0 (H.out.tbx sx)
  clear hK K
  refine wpKeep_nil ?_
  clear H
  intro _ _ H
  (simp only [Act.put, List.setIfInBounds_toArray, List.set_cons_succ, List.set_cons_zero])
  go_wp2_with (first
      | ((with_reducible refine isStore ?_); refine stA H ?_; clear H; intro _ H))
  rename_i g2 W2 g4 W4 g5 W5 W6 K8 hK8
  go_loopw [18] (fun i_ wr => ∃ (m : Nat) (z : Rat), i_ = .int .i64 m ∧ m ≤ n ∧ Hid (nearN (p1, p2) s m = z) ∧ Hid (Hp w wr [(g5, 29, [.bool (sgO (some z)), .string (nuO (some z)), .string (deO (some z))]), (g4, 29, [.bool false, .string ⟨#[]⟩, .string ⟨#[]⟩]), (g2, 44, [.bool (sgO (some p1)), .string (nuO (some p1)), .string (deO (some p1)), .bool (sgO (some p2)), .string (nuO (some p2)), .string (deO (some p2))])])) (fun i_ _ => n - (intOf i_).toNat)
  case atStart => exact ⟨0, z0, rfl, by omega, EN0, H⟩
  case round =>
    clear H
    obtain ⟨m, z, rfl, hm, HZ, H⟩ := hrel
    by_cases hlt : m < n
    · obtain ⟨p, HP⟩ : ∃ p, Hid (s[m]? = some p) := ⟨_, Lib.hid (List.getElem?_eq_getElem (by rw [HN.out]; omega))⟩
      obtain ⟨i1, hi1⟩ : ∃ i1, (m + 1) % n = i1 := ⟨_, rfl⟩
      have lti : i1 < n := by rw [← hi1]; exact Nat.mod_lt _ (by omega)
      obtain ⟨q, HQ⟩ : ∃ q, Hid (s[i1]? = some q) := ⟨_, Lib.hid (List.getElem?_eq_getElem (by rw [HN.out]; exact lti))⟩
      have I1 := Lib.hid hi1
      have NE1 : Hid ((p.1, p.2) ≠ (q.1, q.2)) := C.out.ne_next (i := m) (b := q) HP.out (by rw [HN.out, I1.out]; exact HQ.out)
      have Zp := Y.out p (List.mem_of_getElem? HP.out)
      have Zq := Y.out q (List.mem_of_getElem? HQ.out)
      obtain ⟨Zx1, Zx2⟩ : Hid (Sz k p.1) ∧ Hid (Sz k p.2) := Zp
      obtain ⟨Zy1, Zy2⟩ : Hid (Sz k q.1) ∧ Hid (Sz k q.2) := Zq
      obtain ⟨te, Ete⟩ : ∃ z, Hid (FitT.toEdgeV (p1, p2) (p.1, p.2) (q.1, q.2) = z) := ⟨_, rfl⟩
      obtain ⟨zm, Ezm⟩ : ∃ x : Rat, Hid ((if valO (some z) ≤ valO (some te) then valO (some z) else valO (some te)) = x) := ⟨_, rfl⟩
      have EN1 : Hid (nearN (p1, p2) s (m + 1) = zm) := by
        unfold Hid nearN
        rw [HZ.out, HN.out, I1.out, getD_some HP.out, getD_some HQ.out]
        have h := Ete.out
        rw [show (p.1, p.2) = p from rfl, show (q.1, q.2) = q from rfl] at h
        rw [h]
        exact Ezm.out
      have Zz : SmO (some z) := Sz.o (k := 24 * k + 15) (by rw [← HZ.out]; exact nearN_sz C.out ⟨Zp1.out, Zp2.out⟩ Y.out (by rw [HN.out]; omega)) (by omega)
      have Zte : SmO (some te) := Sz.o (k := 24 * k + 15) (by rw [← Ete.out]; exact toEdgeV_sz ⟨Zp1.out, Zp2.out⟩ ⟨Zx1.out, Zx2.out⟩ ⟨Zy1.out, Zy2.out⟩ NE1.out) (by omega)
      have a1 : IntKind.i64.wrap ((m : Int) + 1) = (m : Int) + 1 := IntWalk.i64_in _ (by omega)
      have n0 : ¬ (n = 0) := by omega
      have tm1 : ((m : Int) + 1).tmod (n : Int) = (i1 : Int) := by rw [Int.tmod_eq_emod_of_nonneg (by omega), ← hi1, Int.natCast_emod]; rfl
      clear hi1
      go_wp2_with (first
          | ((with_reducible refine isLoad ?_); refine ldW H X m HP ?_)
          | ((with_reducible refine isStore ?_); refine stA H ?_; clear H; intro _ H)
          | ((with_reducible refine isAlloc ?_); refine alA H ?_; clear H; intro _ _ H))
      refine wp_region_T 13 H (by kernel_rfl) (by kernel_rfl) ?_
      simp only [List.take_succ_cons, List.take_zero, List.drop_succ_cons, List.drop_zero]
      repeat (first
          | ((with_reducible refine kLoad ?_); refine kldA H ?_)
          | ((fail_if_success (with_reducible refine kCall ?_)); (with_reducible refine kCons ?_); refine wpK_step (fun K hK => ?_); go_simp; refine hK _ ?_; clear hK K))
      try (refine wpK_step (fun K hK => ?_); go_simp; refine hK _ ?_; clear hK K)
      repeat (first
          | ((with_reducible refine kLoad ?_); refine kldW H X i1 HQ ?_)
          | ((fail_if_success (with_reducible refine kCall ?_)); (with_reducible refine kCons ?_); refine wpK_step (fun K hK => ?_); go_simp; refine hK _ ?_; clear hK K))
      refine wpK_step (fun K hK => ?_)
      go_simp
      apply Exists.intro
      refine ⟨fun sx => ?_, hK _ ?_⟩
      · go_at_call 90
        exact toEdge_any (k := k) p1 p2 p.1 p.2 q.1 q.2 te _ hk Zp1 Zp2 Zx1 Zx2 Zy1 Zy2 NE1 Ete (H.out.tbx sx)
      clear hK K
      refine wpK_step (fun K hK => ?_)
      go_simp
      apply Exists.intro
      refine ⟨fun sx => ?_, hK _ ?_⟩
      · go_at_call 78
        exact RMin_any (some z) (some te) zm _ Zz Zte Ezm (H.out.tbx sx)
      clear hK K
      refine wpKeep_nil ?_
      clear H
      intro _ H
      go_wp2_with (first
          | ((with_reducible refine isStore ?_); refine stA H ?_; clear H; intro _ H))
      replace H := Lib.hid H.out.drop
      go_roundw
      case rel => exact ⟨m + 1, zm, by go_num, by omega, EN1, H⟩
      case measure => simp [intOf]; omega
    · have hmn : m = n := by omega
      have ez : z = v := by rw [← HZ.out, hmn, ← HN.out]; exact Ev.out
      subst hmn
      subst ez
      go_wp2_with (first
          | ((with_reducible refine isLoad ?_); refine ldA H ?_)
          | ((with_reducible refine isStore ?_); refine stA H ?_; clear H; intro _ H))
      exact bodyPost_ret (results_H H Tryz.results77 (by (first | exact rRat | exact rSpan | exact rPose | exact rFrame | exact rVec | exact rTurn | exact rBox)) rfl (by (repeat (first | exact List.Mem.head _ | refine List.Mem.tail _ ?_ | assumption))) (by rfl)) rfl ⟨rfl, H.out.bel⟩
end Go.Proofs.YtmfejdikfpckdaaGreatDoor

namespace Go.Proofs.YtmfejdikfpckdaaGreatDoor
open Go.RowKit
set_option linter.unusedVariables false
set_option maxRecDepth 100000

/-- What Sq answers. -/
def SqR (l s : List (Rat × Rat)) (k : Nat) (e : Ending) : Prop := ∃ z : Rat, e = .returned (.tuple #[.agg #[.bool (sgO (some z)), .string (nuO (some z)), .string (deO (some z))], .int .i64 0]) ∧ Sz (24 * k + 15) z ∧ (FitT.Apt l s → 0 < z)
theorem SqR.mk {l s : List (Rat × Rat)} {k : Nat} {e : Ending} (z : Rat) (he : e = .returned (.tuple #[.agg #[.bool (sgO (some z)), .string (nuO (some z)), .string (deO (some z))], .int .i64 0])) (h1 : Sz (24 * k + 15) z) (h2 : FitT.Apt l s → 0 < z) : SqR l s k e := ⟨z, he, h1, h2⟩
set_option maxHeartbeats 16000000 in
theorem sq_any {k : Nat} (v u : Value) (l s : List (Rat × Rat)) (w : World) (hk : k ≤ 300) (V : Hid (VAt w v l)) (U : Hid (VAt w u s)) (Z : Hid (∀ p ∈ l, Sz k p.1 ∧ Sz k p.2)) (Y : Hid (∀ p ∈ s, Sz k p.1 ∧ Sz k p.2)) (C : Hid (FitT.Cvx l)) (D : Hid (FitT.Cvx s)) (hl : (l.length : Int) ≤ 64) (hs : (s.length : Int) ≤ 64) (hT : Tb w) :
    Calls Tryz.prog 44 #[v, u] w fun e w' => SqR l s k e ∧ Below w.heap.size w w' := by
  have H := Lib.hid (Hp.start hT)
  clear hT
  have V0 := V
  have U0 := U
  have c3 := C.out.three
  have d3 := D.out.three
  obtain ⟨b, c, T, more, e, hc, X0⟩ := V.out
  have X := Lib.hid X0
  obtain ⟨b2, c2, T2, more2, e2, hc2, X1⟩ := U.out
  have X2 := Lib.hid X1
  clear X0 X1 V U
  have hl0 := hl
  have hs0 := hs
  obtain ⟨n, hn⟩ : ∃ n, l.length = n := ⟨_, rfl⟩
  obtain ⟨n2, hn2⟩ : ∃ n, s.length = n := ⟨_, rfl⟩
  rw [hn] at e hc hl c3
  rw [hn2] at e2 hc2 hs d3
  have HN := Lib.hid hn
  have HN2 := Lib.hid hn2
  clear hn hn2
  subst e; subst e2
  obtain ⟨p0, P0⟩ : ∃ q, Hid (l[0]? = some q) := ⟨_, Lib.hid (List.getElem?_eq_getElem (by rw [HN.out]; omega))⟩
  have Zp0 := Z.out p0 (List.mem_of_getElem? P0.out)
  obtain ⟨Zp01, Zp02⟩ : Hid (Sz k p0.1) ∧ Hid (Sz k p0.2) := Zp0
  obtain ⟨z0, E0⟩ : ∃ z, Hid (nearV (p0.1, p0.2) s = z) := ⟨_, rfl⟩
  have EA0 : Hid (sqA l s 0 = z0) := by
    unfold Hid sqA
    rw [getD_some P0.out]
    exact E0.out
  have lt0 : 0 < n := by omega
  go_enter Tryz.func44, Tryz.ntmps44
  go_wp2_with (first
      | ((with_reducible refine isAlloc ?_); refine alA H ?_; clear H; intro _ _ H))
  refine (meet_any (k := k) _ _ _ _ _ (by omega) (Lib.hid (V0.out.below H.out.bel)) (Lib.hid (U0.out.below H.out.bel)) Z Y C D hl0 hs0 H.out.tb).mono ?_
  rintro _ _ ⟨⟨r, rfl, hr⟩, hb⟩
  replace H := Lib.hid (H.out.go hb)
  have HR := Lib.hid hr
  clear hb hr
  cases r with
  | true =>
    go_wp2_with (first
        | go_skip)
    have E00 : Hid (((0 : Int) : Rat) = 0) := rfl
    refine (ROf_any 0 0 _ (by decide) (by decide) E00 H.out.tb).mono ?_
    rintro _ _ ⟨rfl, hb⟩
    replace H := Lib.hid (H.out.go hb)
    clear hb
    go_wp2_with (first
        | ((with_reducible refine isStore ?_); refine stA H ?_; clear H; intro _ H))
    refine bodyPost_ret (results_Hv H Tryz.results44 (by (first | exact rRat | exact rSpan | exact rPose | exact rFrame | exact rVec | exact rTurn | exact rBox)) rfl (by (repeat (first | exact List.Mem.head _ | refine List.Mem.tail _ ?_ | assumption))) (by rfl) (by rfl)) rfl ⟨?_, H.out.bel⟩
    exact SqR.mk 0 rfl (Sz.zero.mono (by omega)) (fun h => absurd h (HR.out.1 (by first | trivial | rfl)))
  | false =>
    have AP : Hid (FitT.Apt l s) := Classical.byContradiction fun h => by have h5 := HR.out.2 h; cases h5
    go_wp2_with (first
        | ((with_reducible refine isLoad ?_); refine ldW H X 0 P0 ?_))
    refine (near_any (k := k) p0.1 p0.2 z0 _ s _ hk Zp01 Zp02 (Lib.hid (U0.out.below H.out.bel)) Y D (by omega) E0 H.out.tb).mono ?_
    rintro _ _ ⟨rfl, hb⟩
    replace H := Lib.hid (H.out.go hb)
    clear hb
    go_wp2_with (first
        | ((with_reducible refine isStore ?_); refine stA H ?_; clear H; intro _ H)
        | ((with_reducible refine isAlloc ?_); refine alA H ?_; clear H; intro _ _ H))
    rename_i g4 W4 V4 V5 g8 W8 V8 K8 hK8
    go_loopw [32] (fun i_ wr => ∃ (m : Nat) (z : Rat), i_ = .int .i64 m ∧ m ≤ n ∧ Hid (sqA l s m = z) ∧ Hid (Hp w wr [(g8, 29, [.bool (sgO (some z)), .string (nuO (some z)), .string (deO (some z))]), (g4, 29, [.bool false, .string ⟨#[]⟩, .string ⟨#[]⟩])])) (fun i_ _ => n - (intOf i_).toNat)
    case atStart => exact ⟨0, _, rfl, by omega, EA0, H⟩
    case round =>
      clear H
      obtain ⟨m, z, rfl, hm, HZ, H⟩ := hrel
      by_cases hlt : m < n
      · obtain ⟨p, HP⟩ : ∃ p, Hid (l[m]? = some p) := ⟨_, Lib.hid (List.getElem?_eq_getElem (by rw [HN.out]; omega))⟩
        have Zp := Z.out p (List.mem_of_getElem? HP.out)
        obtain ⟨Zx1, Zx2⟩ : Hid (Sz k p.1) ∧ Hid (Sz k p.2) := Zp
        obtain ⟨te, Ete⟩ : ∃ z, Hid (nearV (p.1, p.2) s = z) := ⟨_, rfl⟩
        obtain ⟨zm, Ezm⟩ : ∃ x : Rat, Hid ((if valO (some z) ≤ valO (some te) then valO (some z) else valO (some te)) = x) := ⟨_, rfl⟩
        have EN1 : Hid (sqA l s (m + 1) = zm) := by
          unfold Hid sqA
          rw [HZ.out, getD_some HP.out]
          have h := Ete.out
          rw [show (p.1, p.2) = p from rfl] at h
          rw [h]
          exact Ezm.out
        have Zz : SmO (some z) := Sz.o (k := 24 * k + 15) (by rw [← HZ.out]; exact sqA_sz C.out D.out Z.out Y.out (by rw [HN.out]; omega)) (by omega)
        have Zte : SmO (some te) := Sz.o (k := 24 * k + 15) (by rw [← Ete.out]; exact nearN_sz D.out ⟨Zx1.out, Zx2.out⟩ Y.out (Nat.le_refl _)) (by omega)
        go_wp2_with (first
            | ((with_reducible refine isLoad ?_); refine ldW H X m HP ?_)
            | ((with_reducible refine isStore ?_); refine stA H ?_; clear H; intro _ H)
            | ((with_reducible refine isAlloc ?_); refine alA H ?_; clear H; intro _ _ H))
        refine wp_region_T 5 H (by kernel_rfl) (by kernel_rfl) ?_
        simp only [List.take_succ_cons, List.take_zero, List.drop_succ_cons, List.drop_zero]
        repeat (first
            | ((with_reducible refine kLoad ?_); refine kldA H ?_)
            | ((fail_if_success (with_reducible refine kCall ?_)); (with_reducible refine kCons ?_); refine wpK_step (fun K hK => ?_); go_simp; refine hK _ ?_; clear hK K))
        refine wpK_step (fun K hK => ?_)
        go_simp
        apply Exists.intro
        refine ⟨fun sx => ?_, hK _ ?_⟩
        · go_at_call 77
          exact near_any (k := k) p.1 p.2 te _ s _ hk Zx1 Zx2 (Lib.hid ((U0.out.below H.out.bel).below sx.h)) Y D (by omega) Ete (H.out.tbx sx)
        clear hK K
        refine wpK_step (fun K hK => ?_)
        go_simp
        apply Exists.intro
        refine ⟨fun sx => ?_, hK _ ?_⟩
        · go_at_call 78
          exact RMin_any (some z) (some te) zm _ Zz Zte Ezm (H.out.tbx sx)
        clear hK K
        refine wpKeep_nil ?_
        clear H
        intro _ H
        go_wp2_with (first
            | ((with_reducible refine isStore ?_); refine stA H ?_; clear H; intro _ H))
        replace H := Lib.hid H.out.drop
        go_roundw
        case rel => exact ⟨m + 1, zm, by go_num, by omega, EN1, H⟩
        case measure => simp [intOf]; omega
      · have hmn : m = n := by omega
        have EB0 : Hid (sqB l s 0 = z) := by unfold Hid sqB; rw [HN.out, ← hmn]; exact HZ.out
        clear HZ
        subst hmn
        go_wp2_with (first
            | go_skip)
        rename_i K9 hK9
        go_loopw [44] (fun i_ wr => ∃ (m : Nat) (z : Rat), i_ = .int .i64 m ∧ m ≤ n2 ∧ Hid (sqB l s m = z) ∧ Hid (Hp w wr [(g8, 29, [.bool (sgO (some z)), .string (nuO (some z)), .string (deO (some z))]), (g4, 29, [.bool false, .string ⟨#[]⟩, .string ⟨#[]⟩])])) (fun i_ _ => n2 - (intOf i_).toNat)
        case atStart => exact ⟨0, _, rfl, by omega, EB0, H⟩
        case round =>
          clear H
          obtain ⟨m, z, rfl, hm, HZ, H⟩ := hrel
          by_cases hlt : m < n2
          · obtain ⟨p, HP⟩ : ∃ p, Hid (s[m]? = some p) := ⟨_, Lib.hid (List.getElem?_eq_getElem (by rw [HN2.out]; omega))⟩
            have Zp := Y.out p (List.mem_of_getElem? HP.out)
            obtain ⟨Zx1, Zx2⟩ : Hid (Sz k p.1) ∧ Hid (Sz k p.2) := Zp
            obtain ⟨te, Ete⟩ : ∃ z, Hid (nearV (p.1, p.2) l = z) := ⟨_, rfl⟩
            obtain ⟨zm, Ezm⟩ : ∃ x : Rat, Hid ((if valO (some z) ≤ valO (some te) then valO (some z) else valO (some te)) = x) := ⟨_, rfl⟩
            have EN1 : Hid (sqB l s (m + 1) = zm) := by
              unfold Hid sqB
              rw [HZ.out, getD_some HP.out]
              have h := Ete.out
              rw [show (p.1, p.2) = p from rfl] at h
              rw [h]
              exact Ezm.out
            have Zz : SmO (some z) := Sz.o (k := 24 * k + 15) (by rw [← HZ.out]; exact sqB_sz C.out D.out Z.out Y.out (by rw [HN2.out]; omega)) (by omega)
            have Zte : SmO (some te) := Sz.o (k := 24 * k + 15) (by rw [← Ete.out]; exact nearN_sz C.out ⟨Zx1.out, Zx2.out⟩ Z.out (Nat.le_refl _)) (by omega)
            go_wp2_with (first
                | ((with_reducible refine isLoad ?_); refine ldW H X2 m HP ?_)
                | ((with_reducible refine isStore ?_); refine stA H ?_; clear H; intro _ H)
                | ((with_reducible refine isAlloc ?_); refine alA H ?_; clear H; intro _ _ H))
            refine wp_region_T 5 H (by kernel_rfl) (by kernel_rfl) ?_
            simp only [List.take_succ_cons, List.take_zero, List.drop_succ_cons, List.drop_zero]
            repeat (first
                | ((with_reducible refine kLoad ?_); refine kldA H ?_)
                | ((fail_if_success (with_reducible refine kCall ?_)); (with_reducible refine kCons ?_); refine wpK_step (fun K hK => ?_); go_simp; refine hK _ ?_; clear hK K))
            refine wpK_step (fun K hK => ?_)
            go_simp
            apply Exists.intro
            refine ⟨fun sx => ?_, hK _ ?_⟩
            · go_at_call 77
              exact near_any (k := k) p.1 p.2 te _ l _ hk Zx1 Zx2 (Lib.hid ((V0.out.below H.out.bel).below sx.h)) Z C (by omega) Ete (H.out.tbx sx)
            clear hK K
            refine wpK_step (fun K hK => ?_)
            go_simp
            apply Exists.intro
            refine ⟨fun sx => ?_, hK _ ?_⟩
            · go_at_call 78
              exact RMin_any (some z) (some te) zm _ Zz Zte Ezm (H.out.tbx sx)
            clear hK K
            refine wpKeep_nil ?_
            clear H
            intro _ H
            go_wp2_with (first
                | ((with_reducible refine isStore ?_); refine stA H ?_; clear H; intro _ H))
            replace H := Lib.hid H.out.drop
            go_roundw
            case rel => exact ⟨m + 1, zm, by go_num, by omega, EN1, H⟩
            case measure => simp [intOf]; omega
          · have hmn : m = n2 := by omega
            have ez : sqB l s s.length = z := by rw [HN2.out, ← hmn]; exact HZ.out
            have P1 := Lib.hid (sqB_pos C.out D.out AP.out)
            have P2 := Lib.hid (sqB_sz C.out D.out Z.out Y.out (Nat.le_refl s.length))
            rw [ez] at P1 P2
            clear HZ ez
            subst hmn
            go_wp2_with (first
                | ((with_reducible refine isLoad ?_); refine ldA H ?_)
                | ((with_reducible refine isStore ?_); refine stA H ?_; clear H; intro _ H))
            refine bodyPost_ret (results_Hv H Tryz.results44 (by (first | exact rRat | exact rSpan | exact rPose | exact rFrame | exact rVec | exact rTurn | exact rBox)) rfl (by (repeat (first | exact List.Mem.head _ | refine List.Mem.tail _ ?_ | assumption))) (by rfl) (by rfl)) rfl ⟨?_, H.out.bel⟩
            exact SqR.mk z rfl P2.out (fun _ => P1.out)
end Go.Proofs.YtmfejdikfpckdaaGreatDoor

namespace Go.Proofs.YtmfejdikfpckdaaGreatDoor
open Go.RowKit
set_option linter.unusedVariables false
set_option maxRecDepth 100000

theorem rPart : RowT Tryz.prog 50 12 := ⟨⟨_, Tryz.underlying50, rfl⟩, by kernel_rfl⟩
theorem rSlot : RowT Tryz.prog 52 14 := ⟨⟨_, Tryz.underlying52, rfl⟩, by kernel_rfl⟩
theorem rWks : RowT Tryz.prog 31 8 := ⟨⟨_, Tryz.underlying31, rfl⟩, by kernel_rfl⟩
theorem zPart : (Tryz.prog.info? 50).bind (·.zero) = some (.agg #[.string ⟨#[]⟩, .slice none 0 0, .bool false, .string ⟨#[]⟩, .string ⟨#[]⟩, .bool false, .string ⟨#[]⟩, .string ⟨#[]⟩, .bool false, .bool false, .string ⟨#[]⟩, .string ⟨#[]⟩]) := by kernel_rfl
theorem zSlot : (Tryz.prog.info? 52).bind (·.zero) = some (.agg #[.string ⟨#[]⟩, .bool false, .string ⟨#[]⟩, .string ⟨#[]⟩, .bool false, .string ⟨#[]⟩, .string ⟨#[]⟩, .bool false, .bool false, .string ⟨#[]⟩, .string ⟨#[]⟩, .bool false, .string ⟨#[]⟩, .string ⟨#[]⟩]) := by kernel_rfl
theorem iPart : InfoT Tryz.prog 50 12 168 := InfoT.of zPart (by kernel_rfl) rfl
theorem iSlot : InfoT Tryz.prog 52 14 184 := InfoT.of zSlot (by kernel_rfl) rfl
theorem uParts : Tryz.prog.underlying 25 = some (.slice 50) := Tryz.underlying25
theorem uSlots : Tryz.prog.underlying 26 = some (.slice 52) := Tryz.underlying26
theorem uWalls : Tryz.prog.underlying 24 = some (.slice 40) := Tryz.underlying24
theorem kParts : ∃ d, Tryz.prog.underlying 25 = some d ∧ d.isRow = false := ⟨_, Tryz.underlying25, rfl⟩
theorem kSlots : ∃ d, Tryz.prog.underlying 26 = some d ∧ d.isRow = false := ⟨_, Tryz.underlying26, rfl⟩
theorem kWalls : ∃ d, Tryz.prog.underlying 24 = some d ∧ d.isRow = false := ⟨_, Tryz.underlying24, rfl⟩
theorem kVecs : ∃ d, Tryz.prog.underlying 40 = some d ∧ d.isRow = false := ⟨_, Tryz.underlying40, rfl⟩
/-- A part: its name, its shape as it lies there and what that is, its grasp. -/
structure PrtE where
  nm : ByteArray
  sA : Option Addr
  sn : Nat
  sc : Nat
  l : List (Rat × Rat)
  x : Option Rat
  y : Option Rat
  t : Option Rat
def PrtE.sh (p : PrtE) : Value := .slice p.sA p.sn p.sc
def prtC (p : PrtE) : List Value := [.string p.nm, .slice p.sA p.sn p.sc, .bool (sgO p.x), .string (nuO p.x), .string (deO p.x), .bool (sgO p.y), .string (nuO p.y), .string (deO p.y), .bool false, .bool (sgO p.t), .string (nuO p.t), .string (deO p.t)]
theorem prtC_len (p : PrtE) : (prtC p).length = 12 := rfl
structure SltE where
  nm : ByteArray
  x : Option Rat
  y : Option Rat
  t : Option Rat
  by_ : Option Rat
def sltC (s : SltE) : List Value := [.string s.nm, .bool (sgO s.x), .string (nuO s.x), .string (deO s.x), .bool (sgO s.y), .string (nuO s.y), .string (deO s.y), .bool false, .bool (sgO s.t), .string (nuO s.t), .string (deO s.t), .bool (sgO s.by_), .string (nuO s.by_), .string (deO s.by_)]
theorem sltC_len (s : SltE) : (sltC s).length = 14 := rfl
/-- A wall: a slice of points, and what they are. -/
structure WalE where
  sA : Option Addr
  sn : Nat
  sc : Nat
  l : List (Rat × Rat)
def WalE.sh (p : WalE) : Value := .slice p.sA p.sn p.sc
def walC (p : WalE) : List Value := [.slice p.sA p.sn p.sc]
theorem walC_len (p : WalE) : (walC p).length = 1 := rfl
/-- A row that lies in a world. -/
def RowW (w : World) (e : TypeId) (size : Nat) (v : Value) (n : Nat) (xs : List Value) : Prop := ∃ cur, RowV size v n xs cur ∧ ∀ x ∈ rowE v e cur, Blk w x.1 x.2.1 x.2.2.toArray
theorem RowW.below {w w' : World} {e : TypeId} {size n : Nat} {v : Value} {xs : List Value} (h : RowW w e size v n xs) (hb : Below w.heap.size w w') : RowW w' e size v n xs := by
  obtain ⟨cur, h1, h2⟩ := h
  exact ⟨cur, h1, fun x hx => (h2 x hx).below hb (h2 x hx).lt⟩
theorem RowW.at_ {α : Type} {enc : α → List Value} {w : World} {e : TypeId} {k n j : Nat} {v : Value} {xs : List α} {x : α} (hk : ∀ x, (enc x).length = k) (h : RowW w e k v n (flat enc xs)) (hx : xs[j]? = some x) (hp : 0 < k) :
    ∃ g c cur, v = .slice (some ⟨g, 0, none⟩) n c ∧ Blk w g e (cur : List Value).toArray ∧ (cur.drop (k * j)).take k = enc x ∧ j < n := by
  obtain ⟨cur, h1, h2⟩ := h
  obtain ⟨g, c, rfl, h3, h4⟩ := h1.at_ hk hx hp
  exact ⟨g, c, cur, rfl, h2 (g, e, cur) (by simp [rowE]), h3, h4⟩
theorem RowW.hp {w0 w : World} {l : Ents} {e : TypeId} {size n : Nat} {v : Value} {xs cur : List Value} (h : Hp w0 w l) (R : RowV size v n xs cur) (hs : ∀ x ∈ rowE v e cur, x ∈ l) : RowW w e size v n xs := ⟨cur, R, fun x hx => (h.blk x (hs x hx)).2⟩
/-- A works in memory. -/
structure WkF (w : World) (v : Value) (ps : List PrtE) (ss : List SltE) (ws : List WalE) : Prop where
  sh : ∃ (a1 a2 a3 a4 a5 : Option Addr) (n1 n5 c1 c2 c3 c4 c5 : Nat) (wb : Bool) (w1 w2 : ByteArray), v = .agg #[.slice a1 n1 c1, .slice a2 ws.length c2, .slice a3 ps.length c3, .slice a4 ss.length c4, .slice a5 n5 c5, .bool wb, .string w1, .string w2] ∧
    RowW w 40 1 (.slice a2 ws.length c2) ws.length (flat walC ws) ∧ RowW w 50 12 (.slice a3 ps.length c3) ps.length (flat prtC ps) ∧ RowW w 52 14 (.slice a4 ss.length c4) ss.length (flat sltC ss)
  pl : ∀ p ∈ ps, VAt w p.sh p.l
  wl : ∀ p ∈ ws, VAt w p.sh p.l
theorem WkF.below {w w' : World} {v : Value} {ps : List PrtE} {ss : List SltE} {ws : List WalE} (h : WkF w v ps ss ws) (hb : Below w.heap.size w w') : WkF w' v ps ss ws := by
  obtain ⟨⟨a1, a2, a3, a4, a5, n1, n5, c1, c2, c3, c4, c5, wb, w1, w2, h0, h1, h2, h3⟩, h4, h5⟩ := h
  exact ⟨⟨a1, a2, a3, a4, a5, n1, n5, c1, c2, c3, c4, c5, wb, w1, w2, h0, h1.below hb, h2.below hb, h3.below hb⟩, fun p hp => (h4 p hp).below hb, fun p hp => (h5 p hp).below hb⟩
section
variable {P : Program} {ops : Array Oper} {rest : List Oper} {o : Oper} {a a2 : Act} {w0 w : World} {l : Ents} {Q : Exit → Act → World → Prop}
/-- A struct of memory that was there. -/
theorem ldO (H : Hid (Hp w0 w l)) {t T : TypeId} {p : Operand} {b k n q : Nat} {cs ds : List Value} (X : Hid (Blk w0 b T cs.toArray)) (hx : Hid ((cs.drop k).take n = ds)) (hT : RowT P t n) (hK : wpList P ops Q rest a2 w) (ho : o.op = .load t p := by rfl) (hg : Region.wanted o (yielded ops a.tmps) = true := by first | exact wanted_none rfl | exact wanted_some rfl rfl) (hp : a.eval p = .pointer (some ⟨b, q, none⟩) := by rfl) (hq : q = k := by omega) (hl : ds.length = n := by rfl)
    (hn : a.put o.dst (.agg ds.toArray) = a2 := by (simp only [Act.put, List.setIfInBounds_toArray, List.set_cons_succ, List.set_cons_zero]; rfl)) : wpList P ops Q (o :: rest) a w := by
  subst hq
  exact wpList_loadB ho hg hT hp (Lib.hid (X.out.below H.out.bel X.out.lt)) hx.out hl (by rw [hn]; exact hK)
theorem kldO (H : Hid (Hp w0 w l)) {R : Act → Prop} {t T : TypeId} {p : Operand} {b k n q : Nat} {cs ds : List Value} (X : Hid (Blk w0 b T cs.toArray)) (hx : Hid ((cs.drop k).take n = ds)) (hT : RowT P t n) (hK : wpKeep P ops w R rest a2) (ho : o.op = .load t p := by rfl) (hg : Region.wanted o (yielded ops a.tmps) = true := by first | exact wanted_none rfl | exact wanted_some rfl rfl) (hp : a.eval p = .pointer (some ⟨b, q, none⟩) := by rfl) (hq : q = k := by omega) (hl : ds.length = n := by rfl)
    (hn : a.put o.dst (.agg ds.toArray) = a2 := by (simp only [Act.put, List.setIfInBounds_toArray, List.set_cons_succ, List.set_cons_zero]; rfl)) : wpKeep P ops w R (o :: rest) a := by
  subst hq
  exact wpKeep_loadB ho hg hT hp (Lib.hid (X.out.below H.out.bel X.out.lt)) hx.out hl (by rw [hn]; exact hK)
theorem ld1O (H : Hid (Hp w0 w l)) {t T : TypeId} {p : Operand} {b k q : Nat} {cs : List Value} {v : Value} (X : Hid (Blk w0 b T cs.toArray)) (hx : Hid (cs[k]? = some v)) (hT : ∃ d, P.underlying t = some d ∧ d.isRow = false) (hK : wpList P ops Q rest a2 w) (ho : o.op = .load t p := by rfl) (hg : Region.wanted o (yielded ops a.tmps) = true := by first | exact wanted_none rfl | exact wanted_some rfl rfl) (hp : a.eval p = .pointer (some ⟨b, q, none⟩) := by rfl) (hq : q = k := by omega)
    (hn : a.put o.dst v = a2 := by (simp only [Act.put, List.setIfInBounds_toArray, List.set_cons_succ, List.set_cons_zero]; rfl)) : wpList P ops Q (o :: rest) a w := by
  subst hq
  exact wpList_loadC ho hg hT hp (Lib.hid (X.out.below H.out.bel X.out.lt)) (by simpa using hx.out) (by rw [hn]; exact hK)
end
theorem results_HHv {fn : Func} {P : Program} {tmps : Array Value} {w0 w : World} {l : Ents} (H : Hid (Hp w0 w l)) {r r2 k : Nat} {t T t2 T2 : TypeId} {b n b2 n2 : Nat} {cs cs2 : List Value} {v : Value} (hr : fn.results = #[.cell r t, .cell r2 t2, .tmp k]) (hT : RowT P t n) (hT2 : RowT P t2 n2) (hp : tmps.getD r undef = .pointer (some ⟨b, 0, none⟩)) (hm : (b, T, cs) ∈ l) (hp2 : tmps.getD r2 undef = .pointer (some ⟨b2, 0, none⟩)) (hm2 : (b2, T2, cs2) ∈ l) (hv : tmps.getD k undef = v) (hl : cs.length = n) (hl2 : cs2.length = n2) :
    (results fn tmps).run P w = .ok (.tuple #[.agg cs.toArray, .agg cs2.toArray, v]) w := by
  unfold results
  rw [hr]
  have e1 := loadVarB (P := P) (H.out.get hm) hT (by simpa using hl)
  have e2 := loadVarB (P := P) (H.out.get hm2) hT2 (by simpa using hl2)
  have hp' : tmps[r]?.getD undef = .pointer (some ⟨b, 0, none⟩) := by simpa using hp
  have hp2' : tmps[r2]?.getD undef = .pointer (some ⟨b2, 0, none⟩) := by simpa using hp2
  have hv' : tmps[k]?.getD undef = v := by simpa using hv
  simp [hp', hp2', hv', asAddr, e1, e2]
end Go.Proofs.YtmfejdikfpckdaaGreatDoor

namespace Go.Proofs.YtmfejdikfpckdaaGreatDoor
open Go.RowKit
set_option linter.unusedVariables false
set_option maxRecDepth 100000

section
variable {P : Program} {w0 w : World} {X T : Ents} {e : TypeId} {cur xs : List Value} {v : Value} {n : Nat}
theorem run_append_G (t ty : TypeId) (i : TypeInfo) (z : Value) (ht : P.underlying t = some (.slice e)) (hi : P.info? e = some i) (hz : i.zero = some z) (hzs : z.cells.size = i.size) (hsz : 0 < i.size)
    (H : Hp w0 w (X ++ (rowE v e cur ++ T))) (R : RowV i.size v n xs cur) (p : Addr) (m c : Nat) (news : List Value) (hl : news.length = m * i.size) (hnews : ∀ j u, news[j]? = some u → w.cell? (p.add j) = some u) (h1 : ∀ u ∈ news, u.oneCell' = true)
    (hm : 0 < m) (h63 : n + m ≤ maxLen) (hbytes : (n + m) * i.bytes ≤ 140737488355328) :
    ∃ v' cur' w', (Builtin.append_ #[t, t] ty #[v, .slice (some p) m c]).run P w = .ok v' w' ∧ RowV i.size v' (n + m) (xs ++ news) cur' ∧ Hp w0 w' (X ++ (rowE v' e cur' ++ T)) ∧ ∃ z, Chg w w' (X ++ (rowE v e cur ++ T)) (X ++ (rowE v' e cur' ++ T)) z := by
  have hsmall : n + m ≤ 9223372036854775807 := by simp only [maxLen] at h63; omega
  have hlen : (xs ++ news).length = (n + m) * i.size := by rw [List.length_append, R.len, hl, Nat.add_mul]
  have hn' := hnews
  -- a new row
  have new : ∀ (old : Nat), (∀ k, X ++ T = k → Hp w0 w k) → ∃ cur' w', w' = w.drew.alloc (.cells (xs.toArray ++ news.toArray ++ Builtin.zeroCells z.cells (grownCap w (n + m) old e - (n + m))) e) ∧
      RowV i.size (.slice (some ⟨w.heap.size, 0, none⟩) (n + m) (grownCap w (n + m) old e)) (n + m) (xs ++ news) cur' ∧ Hp w0 w' (X ++ ((w.heap.size, e, cur') :: T)) ∧ Chg w w' (X ++ (rowE v e cur ++ T)) (X ++ ((w.heap.size, e, cur') :: T)) w.heap.size := fun old hX => by
    have hge := grownCap_ge w (n + m) old e
    have hcm : grownCap w (n + m) old e ≤ maxLen := grownCap_le_maxLen w (n + m) old e h63
    refine ⟨(xs.toArray ++ news.toArray ++ Builtin.zeroCells z.cells (grownCap w (n + m) old e - (n + m))).toList, _, rfl, ⟨hlen, .inr ⟨_, _, rfl, hge, hcm, ?_, ?_⟩⟩, ?_, ?_⟩
    · simp only [Array.length_toList, Array.size_append, List.size_toArray, size_zeroCells, hzs, R.len, hl, ← Nat.add_mul]
      congr 1
      omega
    · simp only [Array.toList_append, List.append_assoc]
      rw [← List.append_assoc, ← hlen]
      exact List.take_left
    rotate_left
    · have hb := ((Below.refl w.heap.size w).drew).alloc (Nat.le_refl _) (.cells (xs.toArray ++ news.toArray ++ Builtin.zeroCells z.cells (grownCap w (n + m) old e - (n + m))) e)
      have hk := Blk.new w.drew e (xs.toArray ++ news.toArray ++ Builtin.zeroCells z.cells (grownCap w (n + m) old e - (n + m)))
      refine ⟨hb.mono (Nat.zero_le _), .inl rfl, hk.lt, fun k hk _ => hb.block k hk, fun x hx hne => ?_⟩
      simp only [List.mem_append, List.mem_cons] at hx ⊢
      rcases hx with hx | rfl | hx
      · exact .inl hx
      · exact absurd rfl hne
      · exact .inr (.inr hx)
    · refine (hX _ rfl).cons (((Below.refl w.heap.size w).drew).alloc (Nat.le_refl _) _) ?_
      have := Blk.new w.drew e (xs.toArray ++ news.toArray ++ Builtin.zeroCells z.cells (grownCap w (n + m) old e - (n + m)))
      rw [Array.toArray_toList]
      exact this
  rcases R.or_ with ⟨rfl, rfl⟩ | ⟨g, cap, rfl, hnc, hcm, hcs, htake⟩
  · have hx : xs = [] := List.eq_nil_of_length_eq_zero (by simpa using R.len)
    subst hx
    have hr := run_append_nil (P := P) w t ty e i z ht hi hz p m c news hl hn' (by omega) (by omega) (by have hb := hbytes; simp only [Nat.zero_add] at hb; omega)
    obtain ⟨cur', w', rfl, h2, h3, h4⟩ := new 0 (fun k hk => by subst hk; exact H)
    simp only [Nat.zero_add, List.nil_append, Array.empty_append] at h2 h3 h4 ⊢
    exact ⟨_, cur', _, hr, h2, h3, _, h4⟩
  · by_cases hroom : n + m ≤ cap
    · have hb : Blk w g e cur.toArray := (H.blk (g, e, cur) (by simp [rowE])).2
      have hfit : n * i.size + news.length ≤ cur.toArray.size := by simp only [List.size_toArray]; rw [hl, hcs, ← Nat.add_mul]; exact Nat.mul_le_mul_right _ hroom
      have hr := run_append_room (P := P) w t ty e i ht hi g n cap cur.toArray hb p m c news hl hn' h1 hroom hfit
      refine ⟨_, (cur.toArray.toList.take (n * i.size) ++ news ++ cur.toArray.toList.drop (n * i.size + news.length)), _, hr, ⟨hlen, .inr ⟨g, cap, rfl, hroom, hcm, ?_, ?_⟩⟩, ?_, g, ?_⟩
      · simp only [List.size_toArray] at hfit
        simp only [List.length_append, List.length_take, List.length_drop]
        omega
      · show List.take _ _ = _
        rw [show cur.toArray.toList.take (n * i.size) = xs from htake, ← hlen]
        exact List.take_left
      · have hu : Upd (X ++ ([(g, e, cur)] ++ T)) g e cur (cur.toArray.toList.take (n * i.size) ++ news ++ cur.toArray.toList.drop (n * i.size + news.length)) (X ++ ([(g, e, cur.toArray.toList.take (n * i.size) ++ news ++ cur.toArray.toList.drop (n * i.size + news.length))] ++ T)) := Upd.mid X
        exact H.stored hu ⟨⟨rfl, rfl, rfl, by simp, Nat.le_refl _, fun k hk => absurd hk (by omega)⟩, fun k _ hk => setRow_other w g k _ hk⟩ (setRow_heap w g cur.toArray _ e _ hb)
      · refine ⟨⟨rfl, rfl, rfl, by simp, Nat.le_refl _, fun k hk => absurd hk (by omega)⟩, .inr ⟨(g, e, cur), by simp [rowE], rfl⟩, by simpa using hb.lt, fun k _ hk => setRow_other w g k _ hk, fun x hx hne => ?_⟩
        simp only [rowE, List.mem_append, List.mem_singleton] at hx ⊢
        rcases hx with hx | rfl | hx
        · exact .inl hx
        · exact absurd rfl hne
        · exact .inr (.inr hx)
    · have hb : Blk w g e cur.toArray := (H.blk (g, e, cur) (by simp [rowE])).2
      have holds : ∀ j u, xs[j]? = some u → w.cell? ((⟨g, 0, none⟩ : Addr).add j) = some u := fun j u hu => by
        rw [Addr.add_lit, Nat.zero_add, hb.cell]
        rw [← htake, List.getElem?_take] at hu
        split at hu
        · simpa using hu
        · cases hu
      have hr := run_append_grow (P := P) w t ty e i z ht hi hz ⟨g, 0, none⟩ n cap xs R.len holds p m c news hl hn' (by omega) (by omega) (growslice_fits (by omega) hbytes)
      obtain ⟨cur', w', rfl, h2, h3, h4⟩ := new cap (fun k hk => by
        subst hk
        exact H.sub (List.Sublist.append (List.Sublist.refl _) (List.sublist_append_right _ _)))
      exact ⟨_, cur', _, hr, h2, h3, _, h4⟩
/-- append of cells that are known to a slice whose row is the call's own. -/
theorem wpList_appG {ops : Array Oper} {rest : List Oper} {o : Oper} {a : Act} {l : Ents} {Q : Exit → Act → World → Prop} {size bytes m c : Nat} {p : Addr} {t : TypeId} {news : List Value} (X T : Ents) (H : Hid (Hp w0 w l)) (R : Hid (RowV size v n xs cur)) (I : InfoT P e size bytes) (hsz : 0 < size) (ht : P.underlying t = some (.slice e)) (S : Hid (∀ j u, news[j]? = some u → w.cell? (p.add j) = some u)) {s x : Operand}
    (hK : ∀ v' cur' W', Hid (RowV size v' (n + m) (xs ++ news) cur') → Hid (Hp w0 W' (X ++ (rowE v' e cur' ++ T))) → wpList P ops Q rest (a.put o.dst v') W')
    (hn : news.length = m * size) (h1 : news.all (·.oneCell') = true) (h0 : 0 < m) (h63 : n + m ≤ maxLen) (hb : (n + m) * bytes ≤ 140737488355328)
    (hl : l = X ++ (rowE v e cur ++ T) := by rfl) (hgd : o.guard = none := by rfl) (ho : o.op = .call { callee := .builtin .append, args := #[s, x], argTypes := #[t, t] } := by rfl) (hs : a.eval s = v := by rfl) (hx : a.eval x = .slice (some p) m c := by rfl) : wpList P ops Q (o :: rest) a w := by
  subst hl
  obtain ⟨i, z, hi, hz, rfl, rfl, hzs⟩ := I.h
  obtain ⟨v', cur', w', hr, h2, h3, _⟩ := run_append_G (P := P) t o.type i z ht hi hz hzs hsz H.out R.out p m c news hn S.out (fun u hu => List.all_eq_true.1 h1 u hu) h0 h63 hb
  refine wpList_plain hgd fun _ hK2 => ?_
  unfold Oper.wp execOp
  simp only [ho, resolve, invoke, builtin, Sem.run_bind, Sem.run_pure, Result.andThen_ok, List.map_toArray, List.map_cons, List.map_nil, hs, hx, hr]
  exact hK2 _ _ (hK v' cur' w' (Lib.hid h2) (Lib.hid h3))
end
end Go.Proofs.YtmfejdikfpckdaaGreatDoor

namespace Go.Proofs.YtmfejdikfpckdaaGreatDoor
open Go.RowKit
set_option linter.unusedVariables false
set_option maxRecDepth 100000

theorem flat_cells {α : Type} {enc : α → List Value} (h : ∀ x, (enc x).all (·.oneCell') = true) : ∀ xs : List α, (flat enc xs).all (·.oneCell') = true
  | [] => rfl
  | x :: xs => by
    have h1 := flat_cells h xs
    unfold flat at h1 ⊢
    rw [List.flatMap_cons, List.all_append, h x, h1]; rfl
theorem RowV.lit0 (k g : Nat) : RowV k (.slice (some ⟨g, 0, none⟩) 0 0) 0 [] [] := ⟨by simp, .inr ⟨g, 0, rfl, Nat.le_refl _, Nat.zero_le _, by simp, by simp⟩⟩
theorem sltC_cells (s : SltE) : (sltC s).all (·.oneCell') = true := rfl
theorem isSlcF (n : Nat) {P : Program} {ops : Array Oper} {rest : List Oper} {a : Act} {w : World} {Q : Exit → Act → World → Prop} {d : Option Tmp} {ty : TypeId} {po : String} {af : Array Edge} {g : Option (Nat × Bool)} {t : TypeId} {ps : Array (Nat × Operand)} (h : wpList P ops Q (⟨d, .buildSlice t n ps, ty, po, af, g⟩ :: rest) a w) : wpList P ops Q (⟨d, .buildSlice t n ps, ty, po, af, g⟩ :: rest) a w := h
theorem isAppF {P : Program} {ops : Array Oper} {rest : List Oper} {a : Act} {w : World} {Q : Exit → Act → World → Prop} {d : Option Tmp} {ty : TypeId} {po : String} {af : Array Edge} {g : Option (Nat × Bool)} {c : Array Operand} {ts : Array TypeId} (h : wpList P ops Q (⟨d, .call { callee := .builtin .append, args := c, argTypes := ts }, ty, po, af, g⟩ :: rest) a w) : wpList P ops Q (⟨d, .call { callee := .builtin .append, args := c, argTypes := ts }, ty, po, af, g⟩ :: rest) a w := h
set_option maxHeartbeats 4000000 in
theorem clone_any (A : Option Addr) (n c : Nat) (ss : List SltE) (w : World) (R : Hid (RowW w 52 14 (.slice A n c) n (flat sltC ss))) (h0 : 0 < n) (hn : n ≤ 1000) (hT : Tb w) :
    Calls Tryz.prog 21 #[.slice A n c] w fun e w' => ∃ (g k : Nat) (cur : List Value), e = .returned (.slice (some ⟨g, 0, none⟩) n k) ∧ RowV 14 (.slice (some ⟨g, 0, none⟩) n k) n (flat sltC ss) cur ∧ Hp w w' [(g, 52, cur)] := by
  have H := Lib.hid (Hp.start hT)
  clear hT
  obtain ⟨cur, R1, R2⟩ := R.out
  obtain ⟨b, hA, hb⟩ : ∃ b, A = some ⟨b, 0, none⟩ ∧ Blk w b 52 cur.toArray := by
    rcases R1.or_ with ⟨e, h⟩ | ⟨g, cap, e, _⟩
    · omega
    · cases e
      exact ⟨g, rfl, R2 (g, _, cur) (by simp [rowE])⟩
  subst hA
  have S0 : Hid (∀ j u, (flat sltC ss)[j]? = some u → w.cell? ((⟨b, 0, none⟩ : Addr).add j) = some u) := by
    rcases R1.or_ with ⟨e, h⟩ | ⟨g, cap, e, _, _, _, h4⟩
    · omega
    · intro j u hu
      rw [Addr.add_lit, Nat.zero_add, hb.cell]
      rw [← h4, List.getElem?_take] at hu
      split at hu
      · simpa using hu
      · cases hu
  have HB := Lib.hid hb
  have HL := Lib.hid R1.len
  clear R R1 R2 hb
  have q26 : ∀ (w : World) (a : Option Addr) (n c n' c' : Nat), (binOp .eql 26 (.slice a n c) (.slice none n' c')).run Tryz.prog w = .ok (.bool a.isNone) w := fun w a n c n' c' => Lib.run_eql_slice_nil w _ _ a n c n' c' uSlots
  go_enter Tryz.func21, Tryz.ntmps21
  go_wp2_with (first
    | ((with_reducible refine isSlcF 0 ?_); refine bsA 52 [] 0 H (fun b1 W1 H1 => ?_); clear H; have H := H1; clear H1)
    | ((with_reducible refine isAppF ?_); refine wpList_appG [] [] H (Lib.hid (RowV.lit0 14 _)) iSlot (by decide) uSlots (Lib.hid (fun j u hu => (H.out.bel.cell (p := (⟨b, 0, none⟩ : Addr).add j) (by rw [Addr.add_lit]; exact HB.out.lt)).trans (S0.out j u hu))) (fun v4 cur4 W4 R4 H4 => ?_) HL.out (flat_cells sltC_cells ss) h0 (by unfold maxLen; omega) (by omega); clear H; obtain ⟨v5, hv5⟩ : ∃ v5, v4 = v5 := ⟨_, rfl⟩; subst hv5; simp only [Act.put, List.setIfInBounds_toArray, List.set_cons_succ, List.set_cons_zero]))
  go_ret
  rcases R4.out.or_ with ⟨e, h⟩ | ⟨g, cap, rfl, _⟩
  · omega
  · exact ⟨g, cap, cur4, by simp, by simpa using R4.out, H4.out⟩
end Go.Proofs.YtmfejdikfpckdaaGreatDoor

namespace Go.Proofs.YtmfejdikfpckdaaGreatDoor
open Go.RowKit
set_option linter.unusedVariables false
set_option maxRecDepth 100000

end Go.Proofs.YtmfejdikfpckdaaGreatDoor

namespace Go.Proofs.YtmfejdikfpckdaaGreatDoor
open Go.RowKit
set_option linter.unusedVariables false
set_option maxRecDepth 100000

end Go.Proofs.YtmfejdikfpckdaaGreatDoor

namespace Go.Proofs.YtmfejdikfpckdaaGreatDoor
open Go.RowKit
set_option linter.unusedVariables false
set_option maxRecDepth 100000

theorem Upd.mem2 {l l' : Ents} {b : Nat} {T : TypeId} {cs ds : List Value} (h : Upd l b T cs ds l') : (b, T, ds) ∈ l' := by
  induction h with
  | head => exact .head _
  | tail _ ih => exact .tail _ ih
/-- The corners of gantmake.Poly. -/
def polyC (a h k x : Int) : List (Rat × Rat) :=
  if k = 0 then [(ofQ (-a) 4, ofQ (-h) 4), (ofQ a 4, ofQ (-h) 4), (ofQ a 4, ofQ h 4), (ofQ (-a) 4, ofQ h 4)] else if k = 1 then [(ofQ (-a) 4, ofQ (-h) 4), (ofQ a 4, ofQ (-h) 4), (ofQ (x - a) 4, ofQ h 4)] else if k = 2 then [(ofQ (-a - 1) 4, ofQ (-h - 1) 4), (ofQ a 4, ofQ (-h - 1) 4), (ofQ (a + 1) 4, ofQ (-h) 4), (ofQ (a + 1) 4, ofQ h 4), (ofQ (-a - 1) 4, ofQ h 4)] else [(ofQ (-a) 4, ofQ 0 4), (ofQ 0 4, ofQ (-h) 4), (ofQ a 4, ofQ 0 4), (ofQ 0 4, ofQ h 4)]
def polyL (S : Sd) : List (Rat × Rat) := polyC (1 + S.nx 6) (1 + S.sn.nx 6) (S.s2.nx 4) (S.s2.sn.nx (2 * (1 + S.nx 6) + 1))
theorem polyL_at (S : Sd) {a h : Int} (ha : 1 + S.nx 6 = a) (hh : 1 + S.sn.nx 6 = h) : (S.s2.nx 4 = 0 → polyL S = [(ofQ (-a) 4, ofQ (-h) 4), (ofQ a 4, ofQ (-h) 4), (ofQ a 4, ofQ h 4), (ofQ (-a) 4, ofQ h 4)]) ∧ (S.s2.nx 4 = 1 → polyL S = [(ofQ (-a) 4, ofQ (-h) 4), (ofQ a 4, ofQ (-h) 4), (ofQ (S.s2.sn.nx (2 * a + 1) - a) 4, ofQ h 4)]) ∧ (S.s2.nx 4 = 2 → polyL S = [(ofQ (-a - 1) 4, ofQ (-h - 1) 4), (ofQ a 4, ofQ (-h - 1) 4), (ofQ (a + 1) 4, ofQ (-h) 4), (ofQ (a + 1) 4, ofQ h 4), (ofQ (-a - 1) 4, ofQ h 4)]) ∧ (S.s2.nx 4 = 3 → polyL S = [(ofQ (-a) 4, ofQ 0 4), (ofQ 0 4, ofQ (-h) 4), (ofQ a 4, ofQ 0 4), (ofQ 0 4, ofQ h 4)]) := by
  unfold polyL polyC
  rw [ha, hh]
  refine ⟨fun e => ?_, fun e => ?_, fun e => ?_, fun e => ?_⟩ <;> rw [e] <;> rfl
theorem polyC_ok (a h k x : Int) (ha : 1 ≤ a ∧ a ≤ 6) (hh : 1 ≤ h ∧ h ≤ 6) (hx : 0 ≤ x ∧ x ≤ 12) : ∃ v0 vs, polyC a h k x = v0 :: vs ∧ vs.length < 10 ∧ ∀ v ∈ v0 :: vs, Sz 1 v.1 ∧ Sz 1 v.2 := by
  have key : ∀ z : Int, -20 ≤ z → z ≤ 20 → Sz 1 (ofQ z 4) := fun z h1 h2 => ofQ_sz _ _ _ (by omega) (by decide) (by decide)
  unfold polyC
  repeat' split
  all_goals
    refine ⟨_, _, rfl, by simp, ?_⟩
    simp only [List.mem_cons, List.not_mem_nil, or_false, forall_eq_or_imp, forall_eq]
    repeat' apply And.intro
  all_goals exact key _ (by omega) (by omega)
theorem polyL_ok (S : Sd) : ∃ v0 vs, polyL S = v0 :: vs ∧ vs.length < 10 ∧ ∀ v ∈ v0 :: vs, Sz 1 v.1 ∧ Sz 1 v.2 := by
  have n1 := S.nx_bd 6 (by decide)
  have n2 := S.sn.nx_bd 6 (by decide)
  have n3 := S.s2.sn.nx_bd (2 * (1 + S.nx 6) + 1) (by omega)
  exact polyC_ok _ _ _ _ (by omega) (by omega) (by omega)
set_option maxHeartbeats 8000000 in
theorem poly_any {w0 w : World} {m : Ents} (S : Sd) (g : Nat) (H : Hid (Hp w0 w m)) (hS : Hid (S.ok w0)) (hm : (g, 93, [S.v]) ∈ m) :
    Calls Tryz.prog 50 #[.pointer (some ⟨g, 0, none⟩)] w fun e w' => ∃ b m', e = .returned (.slice (some ⟨b, 0, none⟩) (polyL S).length (polyL S).length) ∧ Hp w0 w' ((b, 44, vecC (polyL S)) :: m') := by
  obtain ⟨m1, hm1⟩ := upd_of_mem [S.sn.v] hm
  obtain ⟨m2, hm2⟩ := upd_of_mem [S.s2.v] hm1.mem2
  obtain ⟨m3, hm3⟩ := upd_of_mem [S.s2.sn.v] hm2.mem2
  have U1 := Lib.hid hm1
  have U2 := Lib.hid hm2
  have U3 := Lib.hid hm3
  have HS1 := Lib.hid hS.out.next
  have HS2 := Lib.hid hS.out.s2
  have HS3 := Lib.hid hS.out.s2.next
  have n1 := S.nx_bd 6 (by decide)
  have n2 := S.sn.nx_bd 6 (by decide)
  have n3 := S.s2.nx_bd 4 (by decide)
  obtain ⟨a, ha⟩ : ∃ a : Int, 1 + S.nx 6 = a := ⟨_, rfl⟩
  obtain ⟨h, hh⟩ : ∃ h : Int, 1 + S.sn.nx 6 = h := ⟨_, rfl⟩
  have a1 : 1 ≤ a ∧ a ≤ 6 := by omega
  have h1 : 1 ≤ h ∧ h ≤ 6 := by omega
  obtain ⟨a1l, a1r⟩ := a1
  obtain ⟨h1l, h1r⟩ := h1
  have wa : IntKind.i64.wrap (1 + S.nx 6) = a := by rw [ha]; exact IntWalk.i64_in _ (by omega)
  have wh : IntKind.i64.wrap (1 + S.sn.nx 6) = h := by rw [hh]; exact IntWalk.i64_in _ (by omega)
  have wna : IntKind.i64.wrap (-a) = -a := IntWalk.i64_in _ (by omega)
  have wnh : IntKind.i64.wrap (-h) = -h := IntWalk.i64_in _ (by omega)
  have L0 := polyL_at S ha hh
  clear hm hm1 hm2 hm3 n1 n2 ha hh
  by_cases c0 : S.s2.nx 4 = 0
  · have L1 := L0.1 c0
    clear L0
    obtain ⟨an, Ean⟩ : ∃ z : Rat, Hid (ofQ (-a) 4 = z) := ⟨_, rfl⟩
    obtain ⟨hn, Ehn⟩ : ∃ z : Rat, Hid (ofQ (-h) 4 = z) := ⟨_, rfl⟩
    obtain ⟨ap, Eap⟩ : ∃ z : Rat, Hid (ofQ a 4 = z) := ⟨_, rfl⟩
    obtain ⟨hp, Ehp⟩ : ∃ z : Rat, Hid (ofQ h 4 = z) := ⟨_, rfl⟩
    rw [Ean.out, Ehn.out, Eap.out, Ehp.out] at L1
    rw [L1]
    clear L1
    go_enter Tryz.func50, Tryz.ntmps50
    go_wp2_with (first
        | go_skip)
    refine (nextH_any S g 6 H hS U1 (by decide) (by decide)).mono ?_
    rintro _ _ ⟨rfl, H2⟩
    replace H := Lib.hid H2
    clear H2
    go_wp2_with (first
        | go_skip)
    refine (nextH_any S.sn g 6 H HS1 U2 (by decide) (by decide)).mono ?_
    rintro _ _ ⟨rfl, H2⟩
    replace H := Lib.hid H2
    clear H2
    go_wp2_with (first
        | go_skip)
    refine (nextH_any S.s2 g 4 H HS2 U3 (by decide) (by decide)).mono ?_
    rintro _ _ ⟨rfl, H2⟩
    replace H := Lib.hid H2
    clear H2
    go_wp2_with (first
        | go_skip)
    refine (makeAt_any (-a) (-h) an hn _ (by omega) (by omega) H.out.tb Ean Ehn).mono ?_
    rintro _ _ ⟨rfl, hb⟩
    replace H := Lib.hid (H.out.go hb)
    clear hb
    go_wp2_with (first
        | go_skip)
    refine (makeAt_any (a) (-h) ap hn _ (by omega) (by omega) H.out.tb Eap Ehn).mono ?_
    rintro _ _ ⟨rfl, hb⟩
    replace H := Lib.hid (H.out.go hb)
    clear hb
    go_wp2_with (first
        | go_skip)
    refine (makeAt_any (a) (h) ap hp _ (by omega) (by omega) H.out.tb Eap Ehp).mono ?_
    rintro _ _ ⟨rfl, hb⟩
    replace H := Lib.hid (H.out.go hb)
    clear hb
    go_wp2_with (first
        | go_skip)
    refine (makeAt_any (-a) (h) an hp _ (by omega) (by omega) H.out.tb Ean Ehp).mono ?_
    rintro _ _ ⟨rfl, hb⟩
    replace H := Lib.hid (H.out.go hb)
    clear hb
    go_wp2_with (first
        | ((with_reducible refine isSlice ?_); refine wpList_sliceH H 44 (vecC [(an, hn), (ap, hn), (ap, hp), (an, hp)]) 4 rfl rfl (by intro W; kernel_rfl) ?_; clear H; intro _ _ H; (simp only [Act.put, List.setIfInBounds_toArray, List.set_cons_succ, List.set_cons_zero])))
    go_ret
    exact ⟨_, _, rfl, H.out⟩
  by_cases c1 : S.s2.nx 4 = 1
  · have L1 := L0.2.1 c1
    clear L0
    clear c0
    have n5 := S.s2.sn.nx_bd (2 * a + 1) (by omega)
    obtain ⟨x, hx⟩ : ∃ x : Int, S.s2.sn.nx (2 * a + 1) = x := ⟨_, rfl⟩
    rw [hx] at n5 L1
    obtain ⟨n5l, n5r⟩ := n5
    have w2 : IntKind.i64.wrap (2 * a) = 2 * a := IntWalk.i64_in _ (by omega)
    have w3 : IntKind.i64.wrap (2 * a + 1) = 2 * a + 1 := IntWalk.i64_in _ (by omega)
    have wx : IntKind.i64.wrap (x - a) = x - a := IntWalk.i64_in _ (by omega)
    obtain ⟨an, Ean⟩ : ∃ z : Rat, Hid (ofQ (-a) 4 = z) := ⟨_, rfl⟩
    obtain ⟨hn, Ehn⟩ : ∃ z : Rat, Hid (ofQ (-h) 4 = z) := ⟨_, rfl⟩
    obtain ⟨ap, Eap⟩ : ∃ z : Rat, Hid (ofQ a 4 = z) := ⟨_, rfl⟩
    obtain ⟨xa, Exa⟩ : ∃ z : Rat, Hid (ofQ (x - a) 4 = z) := ⟨_, rfl⟩
    obtain ⟨hp, Ehp⟩ : ∃ z : Rat, Hid (ofQ h 4 = z) := ⟨_, rfl⟩
    rw [Ean.out, Ehn.out, Eap.out, Exa.out, Ehp.out] at L1
    rw [L1]
    clear L1
    go_enter Tryz.func50, Tryz.ntmps50
    go_wp2_with (first
        | go_skip)
    refine (nextH_any S g 6 H hS U1 (by decide) (by decide)).mono ?_
    rintro _ _ ⟨rfl, H2⟩
    replace H := Lib.hid H2
    clear H2
    go_wp2_with (first
        | go_skip)
    refine (nextH_any S.sn g 6 H HS1 U2 (by decide) (by decide)).mono ?_
    rintro _ _ ⟨rfl, H2⟩
    replace H := Lib.hid H2
    clear H2
    go_wp2_with (first
        | go_skip)
    refine (nextH_any S.s2 g 4 H HS2 U3 (by decide) (by decide)).mono ?_
    rintro _ _ ⟨rfl, H2⟩
    replace H := Lib.hid H2
    clear H2
    go_wp2_with (first
        | go_skip)
    refine (makeAt_any (-a) (-h) an hn _ (by omega) (by omega) H.out.tb Ean Ehn).mono ?_
    rintro _ _ ⟨rfl, hb⟩
    replace H := Lib.hid (H.out.go hb)
    clear hb
    go_wp2_with (first
        | go_skip)
    refine (makeAt_any (a) (-h) ap hn _ (by omega) (by omega) H.out.tb Eap Ehn).mono ?_
    rintro _ _ ⟨rfl, hb⟩
    replace H := Lib.hid (H.out.go hb)
    clear hb
    go_wp2_with (first
        | go_skip)
    obtain ⟨m4, hm4⟩ := upd_of_mem [S.s2.sn.sn.v] U3.out.mem2
    have U4 := Lib.hid hm4
    clear hm4
    refine (nextH_any S.s2.sn g (2 * a + 1) H HS3 U4 (by omega) (by omega)).mono ?_
    rintro _ _ ⟨rfl, H2⟩
    replace H := Lib.hid H2
    clear H2
    rw [hx]
    clear hx
    go_wp2_with (first
        | go_skip)
    refine (makeAt_any ((x - a)) (h) xa hp _ (by omega) (by omega) H.out.tb Exa Ehp).mono ?_
    rintro _ _ ⟨rfl, hb⟩
    replace H := Lib.hid (H.out.go hb)
    clear hb
    go_wp2_with (first
        | ((with_reducible refine isSlice ?_); refine wpList_sliceH H 44 (vecC [(an, hn), (ap, hn), (xa, hp)]) 3 rfl rfl (by intro W; kernel_rfl) ?_; clear H; intro _ _ H; (simp only [Act.put, List.setIfInBounds_toArray, List.set_cons_succ, List.set_cons_zero])))
    go_ret
    exact ⟨_, _, rfl, H.out⟩
  by_cases c2 : S.s2.nx 4 = 2
  · have L1 := L0.2.2.1 c2
    clear L0
    clear c0 c1
    have w4 : IntKind.i64.wrap (-a - 1) = -a - 1 := IntWalk.i64_in _ (by omega)
    have w5 : IntKind.i64.wrap (-h - 1) = -h - 1 := IntWalk.i64_in _ (by omega)
    have w6 : IntKind.i64.wrap (a + 1) = a + 1 := IntWalk.i64_in _ (by omega)
    obtain ⟨am, Eam⟩ : ∃ z : Rat, Hid (ofQ (-a - 1) 4 = z) := ⟨_, rfl⟩
    obtain ⟨hm, Ehm⟩ : ∃ z : Rat, Hid (ofQ (-h - 1) 4 = z) := ⟨_, rfl⟩
    obtain ⟨ap, Eap⟩ : ∃ z : Rat, Hid (ofQ a 4 = z) := ⟨_, rfl⟩
    obtain ⟨aq, Eaq⟩ : ∃ z : Rat, Hid (ofQ (a + 1) 4 = z) := ⟨_, rfl⟩
    obtain ⟨hn, Ehn⟩ : ∃ z : Rat, Hid (ofQ (-h) 4 = z) := ⟨_, rfl⟩
    obtain ⟨hp, Ehp⟩ : ∃ z : Rat, Hid (ofQ h 4 = z) := ⟨_, rfl⟩
    rw [Eam.out, Ehm.out, Eap.out, Eaq.out, Ehn.out, Ehp.out] at L1
    rw [L1]
    clear L1
    go_enter Tryz.func50, Tryz.ntmps50
    go_wp2_with (first
        | go_skip)
    refine (nextH_any S g 6 H hS U1 (by decide) (by decide)).mono ?_
    rintro _ _ ⟨rfl, H2⟩
    replace H := Lib.hid H2
    clear H2
    go_wp2_with (first
        | go_skip)
    refine (nextH_any S.sn g 6 H HS1 U2 (by decide) (by decide)).mono ?_
    rintro _ _ ⟨rfl, H2⟩
    replace H := Lib.hid H2
    clear H2
    go_wp2_with (first
        | go_skip)
    refine (nextH_any S.s2 g 4 H HS2 U3 (by decide) (by decide)).mono ?_
    rintro _ _ ⟨rfl, H2⟩
    replace H := Lib.hid H2
    clear H2
    go_wp2_with (first
        | go_skip)
    refine (makeAt_any ((-a - 1)) ((-h - 1)) am hm _ (by omega) (by omega) H.out.tb Eam Ehm).mono ?_
    rintro _ _ ⟨rfl, hb⟩
    replace H := Lib.hid (H.out.go hb)
    clear hb
    go_wp2_with (first
        | go_skip)
    refine (makeAt_any (a) ((-h - 1)) ap hm _ (by omega) (by omega) H.out.tb Eap Ehm).mono ?_
    rintro _ _ ⟨rfl, hb⟩
    replace H := Lib.hid (H.out.go hb)
    clear hb
    go_wp2_with (first
        | go_skip)
    refine (makeAt_any ((a + 1)) (-h) aq hn _ (by omega) (by omega) H.out.tb Eaq Ehn).mono ?_
    rintro _ _ ⟨rfl, hb⟩
    replace H := Lib.hid (H.out.go hb)
    clear hb
    go_wp2_with (first
        | go_skip)
    refine (makeAt_any ((a + 1)) (h) aq hp _ (by omega) (by omega) H.out.tb Eaq Ehp).mono ?_
    rintro _ _ ⟨rfl, hb⟩
    replace H := Lib.hid (H.out.go hb)
    clear hb
    go_wp2_with (first
        | go_skip)
    refine (makeAt_any ((-a - 1)) (h) am hp _ (by omega) (by omega) H.out.tb Eam Ehp).mono ?_
    rintro _ _ ⟨rfl, hb⟩
    replace H := Lib.hid (H.out.go hb)
    clear hb
    go_wp2_with (first
        | ((with_reducible refine isSlice ?_); refine wpList_sliceH H 44 (vecC [(am, hm), (ap, hm), (aq, hn), (aq, hp), (am, hp)]) 5 rfl rfl (by intro W; kernel_rfl) ?_; clear H; intro _ _ H; (simp only [Act.put, List.setIfInBounds_toArray, List.set_cons_succ, List.set_cons_zero])))
    go_ret
    exact ⟨_, _, rfl, H.out⟩
  have c3 : S.s2.nx 4 = 3 := by omega
  have L1 := L0.2.2.2 c3
  clear L0
  clear c0 c1 c2
  obtain ⟨an, Ean⟩ : ∃ z : Rat, Hid (ofQ (-a) 4 = z) := ⟨_, rfl⟩
  obtain ⟨zz, Ezz⟩ : ∃ z : Rat, Hid (ofQ 0 4 = z) := ⟨_, rfl⟩
  obtain ⟨hn, Ehn⟩ : ∃ z : Rat, Hid (ofQ (-h) 4 = z) := ⟨_, rfl⟩
  obtain ⟨ap, Eap⟩ : ∃ z : Rat, Hid (ofQ a 4 = z) := ⟨_, rfl⟩
  obtain ⟨hp, Ehp⟩ : ∃ z : Rat, Hid (ofQ h 4 = z) := ⟨_, rfl⟩
  rw [Ean.out, Ezz.out, Ehn.out, Eap.out, Ehp.out] at L1
  rw [L1]
  clear L1
  go_enter Tryz.func50, Tryz.ntmps50
  go_wp2_with (first
      | go_skip)
  refine (nextH_any S g 6 H hS U1 (by decide) (by decide)).mono ?_
  rintro _ _ ⟨rfl, H2⟩
  replace H := Lib.hid H2
  clear H2
  go_wp2_with (first
      | go_skip)
  refine (nextH_any S.sn g 6 H HS1 U2 (by decide) (by decide)).mono ?_
  rintro _ _ ⟨rfl, H2⟩
  replace H := Lib.hid H2
  clear H2
  go_wp2_with (first
      | go_skip)
  refine (nextH_any S.s2 g 4 H HS2 U3 (by decide) (by decide)).mono ?_
  rintro _ _ ⟨rfl, H2⟩
  replace H := Lib.hid H2
  clear H2
  go_wp2_with (first
      | go_skip)
  refine (makeAt_any (-a) (0) an zz _ (by omega) (by omega) H.out.tb Ean Ezz).mono ?_
  rintro _ _ ⟨rfl, hb⟩
  replace H := Lib.hid (H.out.go hb)
  clear hb
  go_wp2_with (first
      | go_skip)
  refine (makeAt_any (0) (-h) zz hn _ (by omega) (by omega) H.out.tb Ezz Ehn).mono ?_
  rintro _ _ ⟨rfl, hb⟩
  replace H := Lib.hid (H.out.go hb)
  clear hb
  go_wp2_with (first
      | go_skip)
  refine (makeAt_any (a) (0) ap zz _ (by omega) (by omega) H.out.tb Eap Ezz).mono ?_
  rintro _ _ ⟨rfl, hb⟩
  replace H := Lib.hid (H.out.go hb)
  clear hb
  go_wp2_with (first
      | go_skip)
  refine (makeAt_any (0) (h) zz hp _ (by omega) (by omega) H.out.tb Ezz Ehp).mono ?_
  rintro _ _ ⟨rfl, hb⟩
  replace H := Lib.hid (H.out.go hb)
  clear hb
  go_wp2_with (first
      | ((with_reducible refine isSlice ?_); refine wpList_sliceH H 44 (vecC [(an, zz), (zz, hn), (ap, zz), (zz, hp)]) 4 rfl rfl (by intro W; kernel_rfl) ?_; clear H; intro _ _ H; (simp only [Act.put, List.setIfInBounds_toArray, List.set_cons_succ, List.set_cons_zero])))
  go_ret
  exact ⟨_, _, rfl, H.out⟩
end Go.Proofs.YtmfejdikfpckdaaGreatDoor

namespace Go.Proofs.YtmfejdikfpckdaaGreatDoor
open Go.RowKit
set_option linter.unusedVariables false
set_option maxRecDepth 100000

set_option maxHeartbeats 4000000 in
theorem Poly_any (S : Sd) (w : World) (hS : S.ok w) (hT : Tb w) :
    Calls Tryz.prog 24 #[.slice S.A S.xs.length S.c] w fun e w' => ∃ b, e = .returned (.slice (some ⟨b, 0, none⟩) (polyL S).length (polyL S).length) ∧ w.heap.size ≤ b ∧ Blk w' b 44 (vecC (polyL S)).toArray ∧ Below w.heap.size w w' := by
  have H := Lib.hid (Hp.start hT)
  have HS0 := Lib.hid hS
  clear hT hS
  go_enter Tryz.func24, Tryz.ntmps24
  go_wp2_with (first
      | ((with_reducible refine isBox ?_); refine bxA H ?_; clear H; intro _ _ H))
  refine (poly_any S _ H HS0 (by (repeat (first | exact List.Mem.head _ | refine List.Mem.tail _ ?_ | assumption)))).mono ?_
  rintro _ _ ⟨b, m2, rfl, H2⟩
  replace H := Lib.hid H2
  clear H2
  go_wp2_with (first
      | go_skip)
  go_ret
  exact ⟨_, rfl, (H.out.blk _ (.head _)).1, (H.out.blk _ (.head _)).2, H.out.bel⟩
end Go.Proofs.YtmfejdikfpckdaaGreatDoor
