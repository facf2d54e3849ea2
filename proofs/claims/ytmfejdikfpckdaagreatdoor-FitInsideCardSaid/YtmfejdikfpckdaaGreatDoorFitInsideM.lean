/- gantkeep4.FitInside. Printed by gen/fitn.py. -/
import Derived.Test.YtmfejdikfpckdaaGreatDoorFb24
import Derived.Test.YtmfejdikfpckdaaGreatDoorFb18
import Derived.Test.YtmfejdikfpckdaaGreatDoorFb17
namespace Go.Proofs.YtmfejdikfpckdaaGreatDoor
open Go.RowKit
set_option linter.unusedVariables false
set_option maxRecDepth 100000

set_option maxHeartbeats 8000000 in
theorem inside_core (S : Sd) (i j : Int) (w : World) (hS : Hid (S.ok w)) (hi : -9223372036854775808 ≤ i ∧ i ≤ 9223372036854775807) (hj : -9223372036854775808 ≤ j ∧ j ≤ 9223372036854775807) (hT : Tb w) :
    Calls Tryz.prog 4 #[.slice S.A S.xs.length S.c, .int .i64 i, .int .i64 j] w fun e w' => e = .returned (.bool true) ∧ Below w.heap.size w w' := by
  have H := Lib.hid (Hp.start hT)
  clear hT
  go_enter Tryz.func4, Tryz.ntmps4
  go_wp2_with (first
      | go_skip
      | ((with_reducible refine isLoad ?_); refine ldA (hT := rWks) H ?_)
      | ((with_reducible refine isAlloc ?_); refine alA (hz := zWks) H ?_; clear H; intro _ _ H)
      | ((with_reducible refine isStore ?_); refine stA (hT := rWks) H ?_; clear H; intro _ H)
      | ((with_reducible refine isLoad ?_); refine ldA H ?_)
      | ((with_reducible refine isLoad ?_); refine ld1A H ?_)
      | ((with_reducible refine isStore ?_); refine stA H ?_; clear H; intro _ H)
      | ((with_reducible refine isStore ?_); refine st1A H ?_; clear H; intro _ H)
      | ((with_reducible refine isBox ?_); refine bxA H ?_; clear H; intro _ _ H)
      | ((with_reducible refine isAlloc ?_); refine alA H ?_; clear H; intro _ _ H))
  refine (wrk_any S _ (Lib.hid (hS.out.below H.out.bel)) H.out.tb).mono ?_
  rintro _ w5 ⟨⟨v, ps, ss, ws, rfl, hwk, hp, hs, hw, lp, ls, lw⟩, hb⟩
  have H0 := Lib.hid (H.out.go hb)
  clear H hb
  have H := Lib.hid (Hp.start H0.out.tb)
  have W0 := Lib.hid hwk
  have PK := Lib.hid hp
  have SK := Lib.hid hs
  have WLK := Lib.hid hw
  clear hwk hp hs hw
  obtain ⟨⟨a1, a2, a3, a4, a5, n1, n5, c1, c2, c3, c4, c5, wb, w1, w2, rfl, RW, RP, RS⟩, HPL, HWL⟩ := W0.out
  by_cases hne : 0 < ps.length ∧ 0 < ss.length
  · have dne : decide (0 < ps.length ∧ 0 < ss.length) = true := decide_eq_true hne
    rw [dne]
    clear dne
    obtain ⟨hnp, hns⟩ := hne
    obtain ⟨p, G1, g1⟩ := item_at hnp
    obtain ⟨s, G3, g3⟩ := item_at hns
    have P1 := PK.out p g1
    have P3 := SK.out s g3
    have VP := Lib.hid (HPL p g1)
    obtain ⟨gs, cs, curS, es, XS0, hxs, hjs⟩ := RS.at_ sltC_len G3.out (by decide)
    obtain ⟨gp, cp, curP, ep, XP0, hxp, hjp⟩ := RP.at_ prtC_len G1.out (by decide)
    cases es
    cases ep
    have XS := Lib.hid XS0
    have XP := Lib.hid XP0
    have HXS : Hid ((curS.drop (14 * 0)).take 14 = [.string s.nm, .bool (sgO s.x), .string (nuO s.x), .string (deO s.x), .bool (sgO s.y), .string (nuO s.y), .string (deO s.y), .bool false, .bool (sgO s.t), .string (nuO s.t), .string (deO s.t), .bool (sgO s.by_), .string (nuO s.by_), .string (deO s.by_)]) := hxs
    have HXP : Hid ((curP.drop (12 * 0)).take 12 = [.string p.nm, .slice p.sA p.sn p.sc, .bool (sgO p.x), .string (nuO p.x), .string (deO p.x), .bool (sgO p.y), .string (nuO p.y), .string (deO p.y), .bool false, .bool (sgO p.t), .string (nuO p.t), .string (deO p.t)]) := hxp
    have HXR : Hid ((curS.drop (14 * 0 + 11)).take 3 = [.bool (sgO s.by_), .string (nuO s.by_), .string (deO s.by_)]) := by
      have h1 := congrArg (List.drop 11) HXS.out
      rw [List.drop_take, List.drop_drop] at h1
      have h2 := congrArg (List.take 3) h1
      rw [List.take_take] at h2
      exact h2
    have HXQ : Hid (curP[1]? = some (.slice p.sA p.sn p.sc)) := by
      unfold Hid
      have h1 := congrArg (fun l => l[1]?) HXP.out
      simpa using h1
    have epn : p.sn = p.l.length := by
      obtain ⟨b, c, T, rest, h1, h2, h3⟩ := VP.out
      have h4 : Value.slice p.sA p.sn p.sc = _ := h1
      injection h4 with _ h5 _
    clear XS0 hxs XP0 hxp RP RS HPL RW HWL
    go_wp2_with (first
        | go_skip
        | ((with_reducible refine isLoad ?_); refine ldA (hT := rWks) H ?_)
        | ((with_reducible refine isAlloc ?_); refine alA (hz := zWks) H ?_; clear H; intro _ _ H)
        | ((with_reducible refine isStore ?_); refine stA (hT := rWks) H ?_; clear H; intro _ H)
        | ((with_reducible refine isLoad ?_); refine ldA H ?_)
        | ((with_reducible refine isLoad ?_); refine ld1A H ?_)
        | ((with_reducible refine isStore ?_); refine stA H ?_; clear H; intro _ H)
        | ((with_reducible refine isStore ?_); refine st1A H ?_; clear H; intro _ H)
        | ((with_reducible refine isBox ?_); refine bxA H ?_; clear H; intro _ _ H)
        | ((with_reducible refine isAlloc ?_); refine alA H ?_; clear H; intro _ _ H))
    refine (fitted_any _ H.out.tb).mono ?_
    rintro _ _ ⟨rfl, hb⟩
    replace H := Lib.hid (H.out.go hb)
    clear hb
    go_wp2_with (first
        | go_skip
        | ((with_reducible refine isLoad ?_); refine ldA (hT := rWks) H ?_)
        | ((with_reducible refine isAlloc ?_); refine alA (hz := zWks) H ?_; clear H; intro _ _ H)
        | ((with_reducible refine isStore ?_); refine stA (hT := rWks) H ?_; clear H; intro _ H)
        | ((with_reducible refine isLoad ?_); refine ldA H ?_)
        | ((with_reducible refine isLoad ?_); refine ld1A H ?_)
        | ((with_reducible refine isStore ?_); refine stA H ?_; clear H; intro _ H)
        | ((with_reducible refine isStore ?_); refine st1A H ?_; clear H; intro _ H)
        | ((with_reducible refine isBox ?_); refine bxA H ?_; clear H; intro _ _ H)
        | ((with_reducible refine isAlloc ?_); refine alA H ?_; clear H; intro _ _ H))
    refine (looseF_any _ ps ss ws p s 0 0 _ (Lib.hid (W0.out.below H.out.bel)) G1 G3 P1 P3 (by omega) (by omega) H.out.tb).mono ?_
    rintro _ _ ⟨out, rfl, hv⟩
    obtain ⟨gl1, cl1, more1, hvl, hcl1, HV⟩ := hv
    subst hvl
    replace H := Lib.hid (H.out.join HV)
    clear HV
    go_wp2_with (first
        | go_skip
        | ((with_reducible refine isLoad ?_); refine ldA (hT := rWks) H ?_)
        | ((with_reducible refine isAlloc ?_); refine alA (hz := zWks) H ?_; clear H; intro _ _ H)
        | ((with_reducible refine isStore ?_); refine stA (hT := rWks) H ?_; clear H; intro _ H)
        | ((with_reducible refine isLoad ?_); refine ldA H ?_)
        | ((with_reducible refine isLoad ?_); refine ld1A H ?_)
        | ((with_reducible refine isStore ?_); refine stA H ?_; clear H; intro _ H)
        | ((with_reducible refine isStore ?_); refine st1A H ?_; clear H; intro _ H)
        | ((with_reducible refine isBox ?_); refine bxA H ?_; clear H; intro _ _ H)
        | ((with_reducible refine isAlloc ?_); refine alA H ?_; clear H; intro _ _ H))
    refine (place_any _ ps ss ws p s 0 0 _ (Lib.hid (W0.out.below H.out.bel)) G1 G3 (Lib.hid P1.z) (Lib.hid P1.c) P1.l (Lib.hid P3.x) (Lib.hid P3.y) (Lib.hid P3.t) (by omega) (by omega) H.out.tb).mono ?_
    rintro _ _ ⟨out, rfl, hv⟩
    obtain ⟨gl2, cl2, more2, hvl, hcl2, HV⟩ := hv
    subst hvl
    replace H := Lib.hid (H.out.join HV)
    clear HV
    have epl : ((p.l.map (putV s.x s.y s.t)).length : Int) = (p.sn : Int) := by rw [List.length_map, epn]
    go_wp2_with (first
        | go_skip
        | ((with_reducible refine isLoad ?_); refine ld1A (hT := kParts) H ?_)
        | ((with_reducible refine isLoad ?_); refine ld1A (hT := kSlots) H ?_)
        | ((with_reducible refine isLoad ?_); refine ld1O H XP HXQ kVecs ?_)
        | ((with_reducible refine isLoad ?_); refine ldO H XS HXR rRat ?_)
        | ((with_reducible refine isLoad ?_); refine ldA (hT := rWks) H ?_)
        | ((with_reducible refine isAlloc ?_); refine alA (hz := zWks) H ?_; clear H; intro _ _ H)
        | ((with_reducible refine isStore ?_); refine stA (hT := rWks) H ?_; clear H; intro _ H)
        | ((with_reducible refine isLoad ?_); refine ldA H ?_)
        | ((with_reducible refine isLoad ?_); refine ld1A H ?_)
        | ((with_reducible refine isStore ?_); refine stA H ?_; clear H; intro _ H)
        | ((with_reducible refine isStore ?_); refine st1A H ?_; clear H; intro _ H)
        | ((with_reducible refine isBox ?_); refine bxA H ?_; clear H; intro _ _ H)
        | ((with_reducible refine isAlloc ?_); refine alA H ?_; clear H; intro _ _ H))
    rename_i g13 W13 W14 K9 hK9
    obtain ⟨nt, hnt⟩ : ∃ nt : Rat, Hid (-(valO s.by_) = nt) := ⟨_, rfl⟩
    obtain ⟨q1, E1⟩ : ∃ q : Int, Hid (i % 9 = q) := ⟨_, rfl⟩
    obtain ⟨q2, E2⟩ : ∃ q : Int, Hid (j % 9 = q) := ⟨_, rfl⟩
    have c1 : 0 ≤ q1 ∧ q1 ≤ 8 := by have := E1.out; omega
    have c2 : 0 ≤ q2 ∧ q2 ≤ 8 := by have := E2.out; omega
    obtain ⟨c1a, c1b⟩ := c1
    obtain ⟨c2a, c2b⟩ := c2
    have ZB : Hid (SzO 1 s.by_) := Lib.hid P3.b
    have ZN : Hid (SzO 1 (some nt)) := by rw [← hnt.out]; exact Lib.hid (Sz.neg P3.b)
    have SB : SmO s.by_ := SzO.sm P3.b (by decide)
    obtain ⟨u1, F1⟩ : ∃ u : Rat, Hid (btQ (valO (some nt)) (valO s.by_) q1 = u) := ⟨_, rfl⟩
    obtain ⟨u2, F2⟩ : ∃ u : Rat, Hid (btQ (valO (some nt)) (valO s.by_) q2 = u) := ⟨_, rfl⟩
    refine wp_region_F1 4 H (by kernel_rfl) (by kernel_rfl) rfl (by simp [Allocs, go_sem]; intro _ _; rfl) ?_
    simp only [List.take_succ_cons, List.take_zero, List.drop_succ_cons, List.drop_zero]
    repeat (first
        | (refine kskA ?_)
        | ((with_reducible refine kLoad ?_); refine kldA H ?_)
        | ((with_reducible refine kLoad ?_); refine kld1A H ?_)
        | ((fail_if_success (with_reducible refine kCall ?_)); (with_reducible refine kCons ?_); refine wpK_step (fun K hK => ?_); go_simp; refine hK _ ?_; clear hK K))
    refine wpK_step (fun K hK => ?_)
    go_simp
    apply Exists.intro
    refine ⟨fun sx => ?_, hK _ ?_⟩
    · go_at_call 12
      exact RNeg_any s.by_ nt _ SB hnt (H.out.tbx sx)
    clear hK K
    repeat (first
        | (refine kskA ?_)
        | ((with_reducible refine kLoad ?_); refine kldA H ?_)
        | ((with_reducible refine kLoad ?_); refine kld1A H ?_)
        | ((fail_if_success (with_reducible refine kCall ?_)); (with_reducible refine kCons ?_); refine wpK_step (fun K hK => ?_); go_simp; refine hK _ ?_; clear hK K))
    refine wpKeep_nil ?_
    clear H
    intro _ _ H
    (simp only [Act.put, List.setIfInBounds_toArray, List.set_cons_succ, List.set_cons_zero])
    go_wp2_with (first
        | go_skip
        | ((with_reducible refine isLoad ?_); refine ld1A (hT := kParts) H ?_)
        | ((with_reducible refine isLoad ?_); refine ld1A (hT := kSlots) H ?_)
        | ((with_reducible refine isLoad ?_); refine ld1O H XP HXQ kVecs ?_)
        | ((with_reducible refine isLoad ?_); refine ldO H XS HXR rRat ?_)
        | ((with_reducible refine isLoad ?_); refine ldA (hT := rWks) H ?_)
        | ((with_reducible refine isAlloc ?_); refine alA (hz := zWks) H ?_; clear H; intro _ _ H)
        | ((with_reducible refine isStore ?_); refine stA (hT := rWks) H ?_; clear H; intro _ H)
        | ((with_reducible refine isLoad ?_); refine ldA H ?_)
        | ((with_reducible refine isLoad ?_); refine ld1A H ?_)
        | ((with_reducible refine isStore ?_); refine stA H ?_; clear H; intro _ H)
        | ((with_reducible refine isStore ?_); refine st1A H ?_; clear H; intro _ H)
        | ((with_reducible refine isBox ?_); refine bxA H ?_; clear H; intro _ _ H)
        | ((with_reducible refine isAlloc ?_); refine alA H ?_; clear H; intro _ _ H))
    rename_i g14 W15 W16 K10 hK10
    refine wp_region_Y 10 [.c (.agg #[.bool (sgO (some nt)), .string (nuO (some nt)), .string (deO (some nt)), .bool (sgO s.by_), .string (nuO s.by_), .string (deO s.by_)]), .c (.int .i64 i), .y, .y, .c (.agg #[.bool (sgO (some nt)), .string (nuO (some nt)), .string (deO (some nt)), .bool (sgO s.by_), .string (nuO s.by_), .string (deO s.by_)]), .c (.int .i64 j), .y, .y, .a, .b] ([(g14, 55, [.bool (sgO (some nt)), .string (nuO (some nt)), .string (deO (some nt)), .bool (sgO s.by_), .string (nuO s.by_), .string (deO s.by_)]), (g13, 29, [.bool (sgO s.by_), .string (nuO s.by_), .string (deO s.by_)])]) H (by (repeat (first | exact List.Sublist.refl _ | exact List.nil_sublist _ | exact List.sublist_append_right _ _ | refine List.Sublist.cons_cons _ ?_ | refine List.Sublist.cons _ ?_))) (by kernel_rfl) (by kernel_rfl) (by kernel_rfl) ?_
    simp only [List.take_succ_cons, List.take_zero, List.drop_succ_cons, List.drop_zero]
    refine wpY_load (by rfl) (by rfl) (by (first | exact wanted_none rfl | exact wanted_some rfl rfl)) rSpan (by rfl) (by (repeat (first | exact List.Mem.head _ | refine List.Mem.tail _ ?_ | assumption))) (by first | rfl | ((simp only [List.drop, List.take]); rfl)) (by rfl) ?_
    (simp only [Act.put, List.setIfInBounds_toArray, List.set_cons_succ, List.set_cons_zero])
    refine wpY_c (by rfl) (by (first | exact wanted_none rfl | exact wanted_some rfl rfl)) (by intro W _; first | (go_simp; rfl) | (go_simp; done) | (trace_state; fail)) ?_
    (simp only [Act.put, List.setIfInBounds_toArray, List.set_cons_succ, List.set_cons_zero])
    refine wpY_y (by rfl) (by (first | exact wanted_none rfl | exact wanted_some rfl rfl)) (fun G F W HF hG => ?_)
    go_simp
    unfold upY
    refine Calls.mono (belowQ_any i 9 q1 _ (by decide) hi.1 hi.2 (by decide) E1) ?_
    rintro _ W2 ⟨rfl, hb⟩
    refine ⟨_, rfl, hG _ W2 _ (HF.out.go hb) (by (repeat (first | exact List.Sublist.refl _ | exact List.nil_sublist _ | exact List.sublist_append_right _ _ | refine List.Sublist.cons_cons _ ?_ | refine List.Sublist.cons _ ?_))) (fun x _ => Iff.rfl) ?_⟩
    clear hG hb HF
    clear G F W W2
    (simp only [Act.put, List.setIfInBounds_toArray, List.set_cons_succ, List.set_cons_zero])
    refine wpY_y (by rfl) (by (first | exact wanted_none rfl | exact wanted_some rfl rfl)) (fun G F W HF hG => ?_)
    go_simp
    unfold upY
    refine Calls.mono (between_any (k := 1) (some nt) s.by_ q1 u1 _ (by decide) ZN ZB c1a c1b F1 HF.out.tb) ?_
    rintro _ W2 ⟨rfl, hb⟩
    refine ⟨_, rfl, hG _ W2 _ (HF.out.go hb) (by (repeat (first | exact List.Sublist.refl _ | exact List.nil_sublist _ | exact List.sublist_append_right _ _ | refine List.Sublist.cons_cons _ ?_ | refine List.Sublist.cons _ ?_))) (fun x _ => Iff.rfl) ?_⟩
    clear hG hb HF
    clear G F W W2
    (simp only [Act.put, List.setIfInBounds_toArray, List.set_cons_succ, List.set_cons_zero])
    refine wpY_load (by rfl) (by rfl) (by (first | exact wanted_none rfl | exact wanted_some rfl rfl)) rSpan (by rfl) (by (repeat (first | exact List.Mem.head _ | refine List.Mem.tail _ ?_ | assumption))) (by first | rfl | ((simp only [List.drop, List.take]); rfl)) (by rfl) ?_
    (simp only [Act.put, List.setIfInBounds_toArray, List.set_cons_succ, List.set_cons_zero])
    refine wpY_c (by rfl) (by (first | exact wanted_none rfl | exact wanted_some rfl rfl)) (by intro W _; first | (go_simp; rfl) | (go_simp; done) | (trace_state; fail)) ?_
    (simp only [Act.put, List.setIfInBounds_toArray, List.set_cons_succ, List.set_cons_zero])
    refine wpY_y (by rfl) (by (first | exact wanted_none rfl | exact wanted_some rfl rfl)) (fun G F W HF hG => ?_)
    go_simp
    unfold upY
    refine Calls.mono (belowQ_any j 9 q2 _ (by decide) hj.1 hj.2 (by decide) E2) ?_
    rintro _ W2 ⟨rfl, hb⟩
    refine ⟨_, rfl, hG _ W2 _ (HF.out.go hb) (by (repeat (first | exact List.Sublist.refl _ | exact List.nil_sublist _ | exact List.sublist_append_right _ _ | refine List.Sublist.cons_cons _ ?_ | refine List.Sublist.cons _ ?_))) (fun x _ => Iff.rfl) ?_⟩
    clear hG hb HF
    clear G F W W2
    (simp only [Act.put, List.setIfInBounds_toArray, List.set_cons_succ, List.set_cons_zero])
    refine wpY_y (by rfl) (by (first | exact wanted_none rfl | exact wanted_some rfl rfl)) (fun G F W HF hG => ?_)
    go_simp
    unfold upY
    refine Calls.mono (between_any (k := 1) (some nt) s.by_ q2 u2 _ (by decide) ZN ZB c2a c2b F2 HF.out.tb) ?_
    rintro _ W2 ⟨rfl, hb⟩
    refine ⟨_, rfl, hG _ W2 _ (HF.out.go hb) (by (repeat (first | exact List.Sublist.refl _ | exact List.nil_sublist _ | exact List.sublist_append_right _ _ | refine List.Sublist.cons_cons _ ?_ | refine List.Sublist.cons _ ?_))) (fun x _ => Iff.rfl) ?_⟩
    clear hG hb HF
    clear G F W W2
    (simp only [Act.put, List.setIfInBounds_toArray, List.set_cons_succ, List.set_cons_zero])
    refine wpY_al (by rfl) (by rfl) (by rfl) zRat (by (simp only [Value.cells]; rfl)) ?_
    intro qa
    (simp only [Act.put, List.setIfInBounds_toArray, List.set_cons_succ, List.set_cons_zero])
    refine wpY_alB (by rfl) (by rfl) (by rfl) zRat (by simp only [Value.cells]; rfl) ?_
    intro qb
    (simp only [Act.put, List.setIfInBounds_toArray, List.set_cons_succ, List.set_cons_zero])
    refine wpY_nil ?_
    clear H
    intro _ H
    go_wp2_with (first
        | go_skip
        | ((with_reducible refine isLoad ?_); refine ld1A (hT := kParts) H ?_)
        | ((with_reducible refine isLoad ?_); refine ld1A (hT := kSlots) H ?_)
        | ((with_reducible refine isLoad ?_); refine ld1O H XP HXQ kVecs ?_)
        | ((with_reducible refine isLoad ?_); refine ldO H XS HXR rRat ?_)
        | ((with_reducible refine isLoad ?_); refine ldA (hT := rWks) H ?_)
        | ((with_reducible refine isAlloc ?_); refine alA (hz := zWks) H ?_; clear H; intro _ _ H)
        | ((with_reducible refine isStore ?_); refine stA (hT := rWks) H ?_; clear H; intro _ H)
        | ((with_reducible refine isLoad ?_); refine ldA H ?_)
        | ((with_reducible refine isLoad ?_); refine ld1A H ?_)
        | ((with_reducible refine isStore ?_); refine stA H ?_; clear H; intro _ H)
        | ((with_reducible refine isStore ?_); refine st1A H ?_; clear H; intro _ H)
        | ((with_reducible refine isBox ?_); refine bxA H ?_; clear H; intro _ _ H)
        | ((with_reducible refine isAlloc ?_); refine alA H ?_; clear H; intro _ _ H))
    rename_i gw W20 W21 W22 W23 W24 W25 W26 W27 K11 hK11
    obtain ⟨n, hn⟩ : ∃ n, p.l.length = n := ⟨_, rfl⟩
    have hl8 := P1.l
    rw [hn] at hl8
    rw [hn]
    have HN := Lib.hid hn
    clear hn
    go_loopw [77] (fun i_ wr => ∃ (m : Nat), i_ = .int .i64 m ∧ m ≤ n ∧ Hid (Hp w5 wr ([(qa, 29, [.bool (sgO (some u1)), .string (nuO (some u1)), .string (deO (some u1))]), (g14, 55, [.bool (sgO (some nt)), .string (nuO (some nt)), .string (deO (some nt)), .bool (sgO s.by_), .string (nuO s.by_), .string (deO s.by_)]), (g13, 29, [.bool (sgO s.by_), .string (nuO s.by_), .string (deO s.by_)]), (gl2, 44, vecC (p.l.map (putV s.x s.y s.t)) ++ more2), (gl1, 44, vecC (lzF p s) ++ more1), (gw, 31, [.slice a1 n1 c1, .slice a2 ws.length c2, .slice (some ⟨gp, 0, none⟩) ps.length c3, .slice (some ⟨gs, 0, none⟩) ss.length c4, .slice a5 n5 c5, .bool wb, .string w1, .string w2]), (qb, 29, [.bool (sgO (some u2)), .string (nuO (some u2)), .string (deO (some u2))])]))) (fun i_ _ => n - (intOf i_).toNat)
    case atStart => exact ⟨0, rfl, by omega, H⟩
    case round =>
      clear H
      obtain ⟨m, rfl, hm1, H⟩ := hrel
      by_cases hlt : m < n
      · obtain ⟨q, hq⟩ : ∃ q, (p.l.map (putV s.x s.y s.t))[m]? = some q := ⟨_, List.getElem?_eq_getElem (by rw [List.length_map, HN.out]; exact hlt)⟩
        have HQ := Lib.hid hq
        have hqm : q ∈ plc p s := List.mem_of_getElem? hq
        have Zq := plc_sz P1 P3 q hqm
        obtain ⟨Zq1, Zq2⟩ := Zq
        obtain ⟨z1, hz1⟩ : ∃ z : Rat, Hid (valO (some q.1) + valO (some u1) = z) := ⟨_, rfl⟩
        obtain ⟨z2, hz2⟩ : ∃ z : Rat, Hid (valO (some q.2) + valO (some u2) = z) := ⟨_, rfl⟩
        have ZU1 : Sz 11 u1 := by rw [← F1.out]; exact Sz.bt ZN.out ZB.out c1a c1b
        have ZU2 : Sz 11 u2 := by rw [← F2.out]; exact Sz.bt ZN.out ZB.out c2a c2b
        have ZZ1 : Hid (Sz 41 z1) := by rw [← hz1.out]; exact Sz.add Zq1 ZU1
        have ZZ2 : Hid (Sz 41 z2) := by rw [← hz2.out]; exact Sz.add Zq2 ZU2
        have hby : -(valO s.by_) ≤ valO s.by_ := by have := P3.b0; grind
        have B1 : -(valO s.by_) ≤ u1 ∧ u1 ≤ valO s.by_ := by have h := btQ_in hby c1a c1b; rw [hnt.out] at h ⊢; rw [← F1.out]; exact h
        have B2 : -(valO s.by_) ≤ u2 ∧ u2 ≤ valO s.by_ := by have h := btQ_in hby c2a c2b; rw [hnt.out] at h ⊢; rw [← F2.out]; exact h
        have IN : Hid (FitT.Ins (lzF p s) (z1, z2)) := by rw [← hz1.out, ← hz2.out]; exact Lib.hid (FitT.loose_ins (plc_cvx P1) B1.1 B1.2 B2.1 B2.2 hqm)
        have LZ : Hid (∀ x ∈ lzF p s, Sz 41 x.1 ∧ Sz 41 x.2) := Lib.hid fun x hx => ⟨(lz_sz P1 P3 x hx).1.mono (by decide), (lz_sz P1 P3 x hx).2.mono (by decide)⟩
        clear hq hqm B1 B2 hby
        go_wp2_with (first
            | go_skip
            | ((with_reducible refine isLoad ?_); refine ldN H m HQ (by (repeat (first | exact List.Mem.head _ | refine List.Mem.tail _ ?_ | assumption))) ?_)
            | ((with_reducible refine isLoad ?_); refine ldA H ?_)
            | ((with_reducible refine isLoad ?_); refine ld1A H ?_)
            | ((with_reducible refine isStore ?_); refine stA H ?_; clear H; intro _ H)
            | ((with_reducible refine isStore ?_); refine st1A H ?_; clear H; intro _ H)
            | ((with_reducible refine isBox ?_); refine bxA H ?_; clear H; intro _ _ H)
            | ((with_reducible refine isAlloc ?_); refine alA H ?_; clear H; intro _ _ H))
        refine wp_region_E H (by kernel_rfl) (by kernel_rfl) ?_
        repeat (first
            | (refine kskA ?_)
            | ((with_reducible refine kLoad ?_); refine kldA H ?_)
            | ((with_reducible refine kLoad ?_); refine kld1A H ?_)
            | ((fail_if_success (with_reducible refine kCall ?_)); (with_reducible refine kCons ?_); refine wpK_step (fun K hK => ?_); go_simp; refine hK _ ?_; clear hK K))
        refine wpK_step (fun K hK => ?_)
        go_simp
        apply Exists.intro
        refine ⟨fun sx => ?_, hK _ ?_⟩
        · go_at_call 15
          exact RAdd_any (some q.1) (some u1) z1 _ (Sz.o Zq1 (by decide)) (Sz.o ZU1 (by decide)) hz1 (H.out.tbx sx)
        clear hK K
        repeat (first
            | (refine kskA ?_)
            | ((with_reducible refine kLoad ?_); refine kldA H ?_)
            | ((with_reducible refine kLoad ?_); refine kld1A H ?_)
            | ((fail_if_success (with_reducible refine kCall ?_)); (with_reducible refine kCons ?_); refine wpK_step (fun K hK => ?_); go_simp; refine hK _ ?_; clear hK K))
        refine wpK_step (fun K hK => ?_)
        go_simp
        apply Exists.intro
        refine ⟨fun sx => ?_, hK _ ?_⟩
        · go_at_call 15
          exact RAdd_any (some q.2) (some u2) z2 _ (Sz.o Zq2 (by decide)) (Sz.o ZU2 (by decide)) hz2 (H.out.tbx sx)
        clear hK K
        repeat (first
            | (refine kskA ?_)
            | ((with_reducible refine kLoad ?_); refine kldA H ?_)
            | ((with_reducible refine kLoad ?_); refine kld1A H ?_)
            | ((fail_if_success (with_reducible refine kCall ?_)); (with_reducible refine kCons ?_); refine wpK_step (fun K hK => ?_); go_simp; refine hK _ ?_; clear hK K))
        refine wpK_step (fun K hK => ?_)
        go_simp
        apply Exists.intro
        refine ⟨fun sx => ?_, hK _ ?_⟩
        · go_at_call 14
          exact polyHas_any (k := 41) _ (lzF p s) z1 z2 _ (by decide) (Lib.hid ⟨gl1, cl1, _, more1, rfl, hcl1, (H.out.blk (gl1, 44, vecC (lzF p s) ++ more1) (by (repeat (first | exact List.Mem.head _ | refine List.Mem.tail _ ?_ | assumption)))).2.below sx.h (H.out.blk (gl1, 44, vecC (lzF p s) ++ more1) (by (repeat (first | exact List.Mem.head _ | refine List.Mem.tail _ ?_ | assumption)))).2.lt⟩) LZ ZZ1 ZZ2 (Lib.hid (lz_cvx P1)) IN (lz_len P1) (H.out.tbx sx)
        clear hK K
        repeat (first
            | (refine kskA ?_)
            | ((with_reducible refine kLoad ?_); refine kldA H ?_)
            | ((with_reducible refine kLoad ?_); refine kld1A H ?_)
            | ((fail_if_success (with_reducible refine kCall ?_)); (with_reducible refine kCons ?_); refine wpK_step (fun K hK => ?_); go_simp; refine hK _ ?_; clear hK K))
        refine wpKeep_nil ?_
        clear H
        intro _ H
        go_wp2_with (first
            | go_skip
            | ((with_reducible refine isLoad ?_); refine ldN H m HQ (by (repeat (first | exact List.Mem.head _ | refine List.Mem.tail _ ?_ | assumption))) ?_)
            | ((with_reducible refine isLoad ?_); refine ldA H ?_)
            | ((with_reducible refine isLoad ?_); refine ld1A H ?_)
            | ((with_reducible refine isStore ?_); refine stA H ?_; clear H; intro _ H)
            | ((with_reducible refine isStore ?_); refine st1A H ?_; clear H; intro _ H)
            | ((with_reducible refine isBox ?_); refine bxA H ?_; clear H; intro _ _ H)
            | ((with_reducible refine isAlloc ?_); refine alA H ?_; clear H; intro _ _ H))
        replace H := Lib.hid H.out.drop
        go_roundw
        case rel => exact ⟨m + 1, by go_num, by omega, H⟩
        case measure => simp [intOf]; omega
      · have hmn : m = n := by omega
        subst hmn
        go_wp2_with (first
            | go_skip
            | ((with_reducible refine isLoad ?_); refine ldA H ?_)
            | ((with_reducible refine isLoad ?_); refine ld1A H ?_)
            | ((with_reducible refine isStore ?_); refine stA H ?_; clear H; intro _ H)
            | ((with_reducible refine isStore ?_); refine st1A H ?_; clear H; intro _ H)
            | ((with_reducible refine isBox ?_); refine bxA H ?_; clear H; intro _ _ H)
            | ((with_reducible refine isAlloc ?_); refine alA H ?_; clear H; intro _ _ H))
        go_ret
        exact ⟨rfl, (H0.out.join H.out).bel⟩
  · have dne : decide (0 < ps.length ∧ 0 < ss.length) = false := decide_eq_false hne
    rw [dne]
    clear dne
    clear RW RP RS HPL HWL
    go_wp2_with (first
        | go_skip
        | ((with_reducible refine isLoad ?_); refine ldA (hT := rWks) H ?_)
        | ((with_reducible refine isAlloc ?_); refine alA (hz := zWks) H ?_; clear H; intro _ _ H)
        | ((with_reducible refine isStore ?_); refine stA (hT := rWks) H ?_; clear H; intro _ H)
        | ((with_reducible refine isLoad ?_); refine ldA H ?_)
        | ((with_reducible refine isLoad ?_); refine ld1A H ?_)
        | ((with_reducible refine isStore ?_); refine stA H ?_; clear H; intro _ H)
        | ((with_reducible refine isStore ?_); refine st1A H ?_; clear H; intro _ H)
        | ((with_reducible refine isBox ?_); refine bxA H ?_; clear H; intro _ _ H)
        | ((with_reducible refine isAlloc ?_); refine alA H ?_; clear H; intro _ _ H))
    refine (fitted_any _ H.out.tb).mono ?_
    rintro _ _ ⟨rfl, hb⟩
    replace H := Lib.hid (H.out.go hb)
    clear hb
    go_wp2_with (first
        | go_skip
        | ((with_reducible refine isLoad ?_); refine ldA (hT := rWks) H ?_)
        | ((with_reducible refine isAlloc ?_); refine alA (hz := zWks) H ?_; clear H; intro _ _ H)
        | ((with_reducible refine isStore ?_); refine stA (hT := rWks) H ?_; clear H; intro _ H)
        | ((with_reducible refine isLoad ?_); refine ldA H ?_)
        | ((with_reducible refine isLoad ?_); refine ld1A H ?_)
        | ((with_reducible refine isStore ?_); refine stA H ?_; clear H; intro _ H)
        | ((with_reducible refine isStore ?_); refine st1A H ?_; clear H; intro _ H)
        | ((with_reducible refine isBox ?_); refine bxA H ?_; clear H; intro _ _ H)
        | ((with_reducible refine isAlloc ?_); refine alA H ?_; clear H; intro _ _ H))
    refine (fitted_any _ H.out.tb).mono ?_
    rintro _ _ ⟨rfl, hb⟩
    replace H := Lib.hid (H.out.go hb)
    clear hb
    go_wp2_with (first
        | go_skip
        | ((with_reducible refine isLoad ?_); refine ldA (hT := rWks) H ?_)
        | ((with_reducible refine isAlloc ?_); refine alA (hz := zWks) H ?_; clear H; intro _ _ H)
        | ((with_reducible refine isStore ?_); refine stA (hT := rWks) H ?_; clear H; intro _ H)
        | ((with_reducible refine isLoad ?_); refine ldA H ?_)
        | ((with_reducible refine isLoad ?_); refine ld1A H ?_)
        | ((with_reducible refine isStore ?_); refine stA H ?_; clear H; intro _ H)
        | ((with_reducible refine isStore ?_); refine st1A H ?_; clear H; intro _ H)
        | ((with_reducible refine isBox ?_); refine bxA H ?_; clear H; intro _ _ H)
        | ((with_reducible refine isAlloc ?_); refine alA H ?_; clear H; intro _ _ H))
    go_ret
    exact ⟨rfl, (H0.out.join H.out).bel⟩
theorem fitInside_core_bd {a : Int} (h : (Lit.int .i64 a).wf = true) : -9223372036854775808 ≤ a ∧ a ≤ 9223372036854775807 := by
  simpa [Lit.wf, IntKind.min, IntKind.max, IntKind.signed, IntKind.bits] using h
theorem fitInside_core (S : Sd) (i j : Int) (hi : -9223372036854775808 ≤ i) (hi2 : i ≤ 9223372036854775807) (hj : -9223372036854775808 ≤ j) (hj2 : j ≤ 9223372036854775807) (w : World) (hS : S.ok w) (hT : Tb w) :
    Calls Tryz.prog 4 #[.slice S.A S.xs.length S.c, .int .i64 i, .int .i64 j] w fun e w' => e = .returned (.bool true) ∧ Go.RowKit.Below w.heap.size w w' :=
  (inside_core S i j w (Lib.hid hS) ⟨hi, hi2⟩ ⟨hj, hj2⟩ hT).mono fun _ _ h => ⟨h.1, h.2.os, h.2.tape, h.2.output, h.2.size, h.2.block⟩
end Go.Proofs.YtmfejdikfpckdaaGreatDoor
