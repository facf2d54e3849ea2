/- The goals of the maker's jobs. No walk. · TypesFit. Printed by gen/fit.py. -/
import Derived.Test.YtbphdmnomakeoaaDoorJo23
namespace Go.Proofs.YtbphdmnomakeoaaDoor
open Go.RowKit
set_option linter.unusedVariables false
set_option maxRecDepth 100000

theorem lvS_leaf {na np ns : Nat} : ∀ (d : Nat) (s : Stm), VSt na np ns d s → ∀ y ∈ lvS d s, Leaf na np ns y
  | 0, _, h => h.elim
  | d + 1, s, h => by
    intro y hy
    unfold lvS at hy
    rcases h.cases with hl | ⟨_, _, _, hb, hk⟩
    · rw [hl.bl] at hy
      have := hl.k
      rw [if_pos (by omega)] at hy
      simp at hy
      rw [hy]
      exact hl
    · have hk6 : ¬ s.k < 6 := by rcases hk with ⟨k1, _⟩ | ⟨k1, _⟩ | ⟨k1, _⟩ | ⟨k1, _⟩ <;> omega
      rw [if_neg hk6, List.nil_append] at hy
      obtain ⟨b, hb1, hb2⟩ := List.mem_flatMap.1 hy
      obtain ⟨x, hx1, hx2⟩ := List.mem_flatMap.1 hb2
      exact lvS_leaf d x ((hb b hb1).2 x hx1) y hx2
theorem lvL_leaf {na np ns d : Nat} {l : List Stm} (h : VSs na np ns d l) : ∀ y ∈ lvL d l, Leaf na np ns y := fun y hy => by
  obtain ⟨s, hs, hy⟩ := List.mem_flatMap.1 hy
  exact lvS_leaf d s (h.2 s hs) y hy
/-- All goals are bound. -/
theorem goalsP_ok {na np ns : Nat} (hna : 1 ≤ na ∧ na ≤ 2) (hnp : 1 ≤ np ∧ np ≤ 2) (hns : 1 ≤ ns ∧ ns ≤ 2) : ∀ (l : List Stm) (acc : List Gl), (∀ y ∈ l, Leaf na np ns y) →
    ∃ gs, goalsP (armN.take na) (partN.take np) ((slotN.take ns).map sltOf) l acc = (acc ++ gs, 0) ∧ (∀ g ∈ gs, GoalOk na np ns g) ∧ gs.map (·.k) = l.map (·.k)
  | [], acc, _ => ⟨[], by simp [goalsP], by simp, rfl⟩
  | s :: r, acc, h => by
    obtain ⟨_, ⟨g, h1, h2, h3⟩, _⟩ := leaf_bind hna hnp hns (h s (.head _))
    obtain ⟨gs, g1, g2, g3⟩ := goalsP_ok hna hnp hns r (acc ++ [g]) (fun y hy => h y (.tail _ hy))
    refine ⟨g :: gs, ?_, fun x hx => ?_, by simp [h2, g3]⟩
    · rw [goalsP, h1, if_neg (by simp), g1]
      simp
    · rcases List.mem_cons.1 hx with rfl | hx
      · exact h3
      · exact g2 x hx
/-- Without parts, just those fail that name one. -/
theorem goalsP_no {na np ns : Nat} (hna : 1 ≤ na ∧ na ≤ 2) (hnp : 1 ≤ np ∧ np ≤ 2) (hns : 1 ≤ ns ∧ ns ≤ 2) : ∀ (l : List Stm) (acc : List Gl), (∀ y ∈ l, Leaf na np ns y) →
    (goalsP (armN.take na) [] ((slotN.take ns).map sltOf) l acc).2 = if l.any (fun y => decide (y.k = 1 ∨ y.k = 2 ∨ y.k = 4)) = true then 16 else 0
  | [], acc, _ => rfl
  | s :: r, acc, h => by
    obtain ⟨_, _, h1⟩ := leaf_bind hna hnp hns (h s (.head _))
    rw [goalsP, List.any_cons]
    by_cases hk : s.k = 1 ∨ s.k = 2 ∨ s.k = 4
    · rw [if_pos hk] at h1
      rw [h1, if_pos (by decide), decide_eq_true hk]
      rfl
    · rw [if_neg hk] at h1
      rw [h1, if_neg (by decide), decide_eq_false hk, Bool.false_or]
      exact goalsP_no hna hnp hns r _ (fun y hy => h y (.tail _ hy))
theorem usesL_sorted (gs : List Gl) (kind : Int) (n : Nat) : (usesL gs kind n).Pairwise (· < ·) := by
  induction n with
  | zero => exact List.Pairwise.nil
  | succ n ih =>
    rw [usesL_snoc, List.pairwise_append]
    refine ⟨ih, ?_, fun a ha b hb => ?_⟩
    · split <;> simp
    · split at hb
      · obtain rfl := List.mem_singleton.1 hb
        unfold usesL at ha
        obtain ⟨i, hi, rfl⟩ := List.mem_map.1 ha
        have := List.mem_range.1 (List.mem_filter.1 hi).1
        omega
      · cases hb
/-- A part is named just if a leaf names one. -/
theorem usesL_part {na np ns : Nat} {gs : List Gl} {l : List Stm} {M : Nat} (h : ∀ g ∈ gs, GoalOk na np ns g) (hk : gs.map (·.k) = l.map (·.k)) (hM : np ≤ M) : usesL gs 2 M = [] ↔ l.any (fun y => decide (y.k = 1 ∨ y.k = 2 ∨ y.k = 4)) = false := by
  have e : l.any (fun y => decide (y.k = 1 ∨ y.k = 2 ∨ y.k = 4)) = gs.any (fun g => decide (g.k = 1 ∨ g.k = 2 ∨ g.k = 4)) := by
    have h1 : (l.map (·.k)).any (fun k => decide (k = 1 ∨ k = 2 ∨ k = 4)) = l.any (fun y => decide (y.k = 1 ∨ y.k = 2 ∨ y.k = 4)) := by rw [List.any_map]; rfl
    have h2 : (gs.map (·.k)).any (fun k => decide (k = 1 ∨ k = 2 ∨ k = 4)) = gs.any (fun y => decide (y.k = 1 ∨ y.k = 2 ∨ y.k = 4)) := by rw [List.any_map]; rfl
    rw [← h1, ← h2, hk]
  rw [e]
  have kp : ∀ g, GoalOk na np ns g → ((kindsP g.k).1 = 2 ↔ g.k = 1 ∨ g.k = 2 ∨ g.k = 4) ∧ (kindsP g.k).2 ≠ 2 ∧ (g.k = 1 ∨ g.k = 2 ∨ g.k = 4 → 0 ≤ g.a ∧ g.a < np) := by
    intro g hg
    rcases hg with hg | hg | hg | hg | hg <;> (rw [hg.1]; refine ⟨by decide, by decide, fun _ => ?_⟩) <;> first | exact hg.2.1 | (exfalso; revert ‹_ ∨ _›; decide)
  unfold usesL
  rw [List.map_eq_nil_iff, List.filter_eq_nil_iff, List.any_eq_false]
  constructor
  · intro h1 g hg hd
    have hd2 := of_decide_eq_true hd
    obtain ⟨k1, k2, k3⟩ := kp g (h g hg)
    have hr := k3 hd2
    refine h1 g.a.toNat (List.mem_range.2 (by omega)) (List.any_eq_true.2 ⟨g, hg, ?_⟩)
    unfold namesG
    rw [decide_eq_true (k1.2 hd2), decide_eq_true (show g.a = (g.a.toNat : Int) by omega)]
    rfl
  · intro h1 i hi hd
    obtain ⟨g, hg, hn⟩ := List.any_eq_true.1 hd
    obtain ⟨k1, k2, k3⟩ := kp g (h g hg)
    unfold namesG at hn
    rw [decide_eq_false k2, Bool.false_and, Bool.or_false, Bool.and_eq_true] at hn
    exact h1 g hg (decide_eq_true (k1.1 (of_decide_eq_true hn.1)))
end Go.Proofs.YtbphdmnomakeoaaDoor

namespace Go.Proofs.YtbphdmnomakeoaaDoor
open Go.RowKit
set_option linter.unusedVariables false
set_option maxRecDepth 100000

theorem kInl : ∃ d, Tryd.prog.underlying 22 = some d ∧ d.isRow = false := ⟨_, Tryd.underlying22, rfl⟩
theorem sInl : (Tryd.prog.info? 22).map (·.size) = some 1 := by kernel_rfl
theorem max_len {na np ns : Nat} (hna : 1 ≤ na ∧ na ≤ 2) (hnp : 1 ≤ np ∧ np ≤ 2) (hns : 1 ≤ ns ∧ ns ≤ 2) : ∃ M, max (max (armN.take na).length (partN.take np).length) ((slotN.take ns).map sltOf).length = M ∧ M ≤ 2 ∧ np ≤ M := by
  have la : (armN.take na).length = na := by simp [armN]; omega
  have lp : (partN.take np).length = np := by simp [partN]; omega
  have ls : ((slotN.take ns).map sltOf).length = ns := by simp [slotN]; omega
  rw [la, lp, ls]
  exact ⟨_, rfl, by omega, by omega⟩
theorem rot3 {R1 R2 R3 m : Ents} {a b : Nat × TypeId × List Value} : (R1 ++ (R2 ++ (R3 ++ (a :: b :: m)))).Perm (a :: b :: (R1 ++ (R2 ++ (R3 ++ m)))) :=
  ((((rot2.append_left _).trans rot2).append_left _).trans rot2)
theorem task_ok : nameB ⟨#[116, 97, 115, 107]⟩ = true := by decide +kernel
set_option maxHeartbeats 4000000 in
theorem TypesFit_any (S1 S2 : Sd) (w : World) (h1 : S1.ok w) (h2 : S2.ok w) (hT : Tb w) :
    Calls Tryd.prog 4 #[S1.v, S2.v] w fun e w' => e = .returned (.bool true) ∧ Below w.heap.size w w' := by
  have H := Lib.hid (Hp.start hT)
  have HS1 := Lib.hid h1
  have HS2 := Lib.hid h2
  clear h1 h2 hT
  obtain ⟨A1, b1, c1, hv1⟩ : ∃ A n c, S1.v = .slice A n c := ⟨_, _, _, rfl⟩
  obtain ⟨A2, b2, c2, hv2⟩ : ∃ A n c, S2.v = .slice A n c := ⟨_, _, _, rfl⟩
  have HV1 := Lib.hid hv1
  have HV2 := Lib.hid hv2
  rw [hv1, hv2]
  clear hv1 hv2
  go_enter Tryd.func4, Tryd.ntmps4
  go_wp2_with (first
      | go_skip
      | ((with_reducible refine isLoad ?_); refine ldA H ?_ (hT := by first | exact rJob | exact rStm8 | exact rWks | exact rGoa))
      | ((with_reducible refine isLoad ?_); refine ld1A H ?_ (hT := by first | exact kInt | exact kStl | exact kBll | exact kArl | exact kPrl | exact kSll | exact kInl))
      | ((with_reducible refine isStore ?_); refine stA H ?_ (hT := by first | exact rWks | exact rJob); clear H; intro _ H)
      | ((with_reducible refine isAlloc ?_); first | (refine alA H ?_ (hz := zWks); clear H; intro q5 _ H) | (refine alA H ?_ (hz := zJob); clear H; intro q6 _ H)))
  go_at_call 6
  rw [← HV1.out]
  refine Calls.mono (Small_E S1.A S1.xs.length S1.c S1.xs _ ⟨rfl, HS1.out.le, HS1.out.mx, HS1.out.at_, HS1.out.rg⟩ H.out.tb) ?_
  rintro _ w1 ⟨na, np, ns, cs, E, rfl, hna, hnp, hns, HN, W0⟩
  replace H := Lib.hid (H.out.join HN)
  rw [List.append_nil] at H
  have WV := Lib.hid W0
  obtain ⟨av, pv, sv, rfl, RA, RP, RS⟩ := W0
  obtain ⟨n1, e1⟩ : ∃ n, (armN.take na).length = n := ⟨_, rfl⟩
  obtain ⟨n2, e2⟩ : ∃ n, (partN.take np).length = n := ⟨_, rfl⟩
  obtain ⟨n3, e3⟩ : ∃ n, ((slotN.take ns).map sltOf).length = n := ⟨_, rfl⟩
  rw [e1] at RA
  rw [e2] at RP
  rw [e3] at RS
  have HE1 := Lib.hid e1
  have HE3 := Lib.hid e3
  obtain ⟨Ba, ca, rfl, _⟩ := RA.shape
  obtain ⟨Bp, cp, rfl, _⟩ := RP.shape
  obtain ⟨Bs, cc, rfl, _⟩ := RS.shape
  replace RA := Lib.hid RA
  replace RS := Lib.hid RS
  obtain ⟨M, hM, hM2, hnM⟩ := max_len hna hnp hns
  have HM := Lib.hid hM
  have HNA := Lib.hid hna
  have HNP := Lib.hid hnp
  have HNS := Lib.hid hns
  have HSL : Hid (∀ x ∈ (slotN.take ns).map sltOf, SmO x.wd) := Lib.hid fun x hx => by
    obtain ⟨y, _, rfl⟩ := List.mem_map.1 hx
    exact quart_sm
  clear HN RP e1 e2 e3 hM hna hnp hns
  go_wp2_with (first
      | go_skip
      | ((with_reducible refine isLoad ?_); refine ldA H ?_ (hT := by first | exact rJob | exact rStm8 | exact rWks | exact rGoa))
      | ((with_reducible refine isLoad ?_); refine ld1A H ?_ (hT := by first | exact kInt | exact kStl | exact kBll | exact kArl | exact kPrl | exact kSll | exact kInl))
      | ((with_reducible refine isStore ?_); refine stA H ?_ (hT := by first | exact rWks | exact rJob); clear H; intro _ H)
      | ((with_reducible refine isAlloc ?_); first | (refine alA H ?_ (hz := zWks); clear H; intro q5 _ H) | (refine alA H ?_ (hz := zJob); clear H; intro q6 _ H)))
  go_at_call 11
  rw [← HV2.out]
  refine Calls.mono (Job_any na np ns HNA.out HNP.out HNS.out w _ _ E S2 _ H HS2 WV (Lib.hid (fun x hx => .tail _ hx))) ?_
  rintro _ _ ⟨x, l, EJ, rfl, h2, hR, hV⟩
  replace H := Lib.hid (h2.perm List.perm_middle)
  obtain ⟨Bx, cx, rfl⟩ := hR.shape
  have HC := Lib.hid (hV.check HNA.out HNP.out HNS.out task_ok).1
  obtain ⟨gs, hg1, hg2, hg3⟩ := goalsP_ok HNA.out HNP.out HNS.out (lvL 3 l) [] (lvL_leaf hV)
  rw [List.nil_append] at hg1
  have HG := Lib.hid hg1
  have HPT := Lib.hid (usesL_part hg2 hg3 hnM)
  have HNO := Lib.hid (goalsP_no HNA.out HNP.out HNS.out (lvL 3 l) [] (lvL_leaf hV))
  obtain ⟨nll, hnll⟩ : ∃ n, l.length = n := ⟨_, rfl⟩
  rw [hnll] at hR ⊢
  have HR := Lib.hid hR
  have hbx : (⟨#[116, 97, 115, 107]⟩ : ByteArray).size ≤ maxLen := by decide
  have HEE : Hid (∀ x ∈ E, x ∈ EJ ++ E) := Lib.hid fun x hx => List.mem_append_right _ hx
  have HEJ : Hid (∀ x ∈ EJ, x ∈ EJ ++ E) := Lib.hid fun x hx => List.mem_append_left _ hx
  clear h2 hR hV hg1 hg2 hg3 hnll
  go_wp2_with (first
      | go_skip
      | ((with_reducible refine isLoad ?_); refine ldA H ?_ (hT := by first | exact rJob | exact rStm8 | exact rWks | exact rGoa))
      | ((with_reducible refine isLoad ?_); refine ld1A H ?_ (hT := by first | exact kInt | exact kStl | exact kBll | exact kArl | exact kPrl | exact kSll | exact kInl))
      | ((with_reducible refine isStore ?_); refine stA H ?_ (hT := by first | exact rWks | exact rJob); clear H; intro _ H)
      | ((with_reducible refine isAlloc ?_); first | (refine alA H ?_ (hz := zWks); clear H; intro q5 _ H) | (refine alA H ?_ (hz := zJob); clear H; intro q6 _ H)))
  go_at_call 12
  refine Calls.mono (Uses_any 3 w _ _ E EJ (armN.take na) (partN.take np) ((slotN.take ns).map sltOf) _ ⟨#[116, 97, 115, 107]⟩ l _ gs M H WV (Lib.hid fun x hx => .tail _ (.tail _ (HEE.out x hx))) (Lib.hid fun x hx => .tail _ (.tail _ (HEJ.out x hx))) HR hbx (by decide) HC HSL HG HM (by omega)) ?_
  rintro _ _ ⟨va, vp, vs, k1, k2, k3, rfl, r1, r2, r3, h2⟩
  replace H := Lib.hid (h2.perm rot3)
  obtain ⟨Va, d1, rfl⟩ := r1.shape
  obtain ⟨Vp, d2, rfl⟩ := r2.shape
  obtain ⟨Vs, d3, rfl⟩ := r3.shape
  have l1 := usesL_le gs 1 M
  have l2 := usesL_le gs 2 M
  have l3 := usesL_le gs 3 M
  obtain ⟨x1, hx1⟩ : ∃ x, usesL gs 1 M = x := ⟨_, rfl⟩
  obtain ⟨x2, hx2⟩ : ∃ x, usesL gs 2 M = x := ⟨_, rfl⟩
  obtain ⟨x3, hx3⟩ : ∃ x, usesL gs 3 M = x := ⟨_, rfl⟩
  have s1 := usesL_sorted gs 1 M
  have s2 := usesL_sorted gs 2 M
  have s3 := usesL_sorted gs 3 M
  have hpt := HPT.out
  rw [hx1] at r1 l1 s1 H ⊢
  rw [hx2] at r2 l2 s2 hpt H ⊢
  rw [hx3] at r3 l3 s3 H ⊢
  replace HPT := Lib.hid hpt
  obtain ⟨m1, hm1⟩ : ∃ m, x1.length = m := ⟨_, rfl⟩
  obtain ⟨m2, hm2⟩ : ∃ m, x2.length = m := ⟨_, rfl⟩
  obtain ⟨m3, hm3⟩ : ∃ m, x3.length = m := ⟨_, rfl⟩
  have R1 : Hid (RowIn (rowE (.slice Va m1 d1) 3 k1) 3 1 (.slice Va m1 d1) m1 (ints x1)) := Lib.hid (by rw [← hm1]; exact RowV.rowin r1)
  have R2 : Hid (RowIn (rowE (.slice Vp m2 d2) 3 k2) 3 1 (.slice Vp m2 d2) m2 (ints x2)) := Lib.hid (by rw [← hm2]; exact RowV.rowin r2)
  have R3 : Hid (RowIn (rowE (.slice Vs m3 d3) 3 k3) 3 1 (.slice Vs m3 d3) m3 (ints x3)) := Lib.hid (by rw [← hm3]; exact RowV.rowin r3)
  rw [hm1] at l1 H ⊢
  rw [hm2] at l2 H ⊢
  rw [hm3] at l3 H ⊢
  have S1' := Lib.hid s1
  have S2' := Lib.hid s2
  have S3' := Lib.hid s3
  have HL2 := Lib.hid hm2
  clear h2 r1 r2 r3 hx1 hx2 hx3 s1 s2 s3 hpt hm1 hm2 hm3
  go_wp2_with (first
      | go_skip
      | ((with_reducible refine isLoad ?_); refine ldA H ?_ (hT := by first | exact rJob | exact rStm8 | exact rWks | exact rGoa))
      | ((with_reducible refine isLoad ?_); refine ld1A H ?_ (hT := by first | exact kInt | exact kStl | exact kBll | exact kArl | exact kPrl | exact kSll | exact kInl))
      | ((with_reducible refine isStore ?_); refine stA H ?_ (hT := by first | exact rWks | exact rJob); clear H; intro _ H)
      | ((with_reducible refine isAlloc ?_); first | (refine alA H ?_ (hz := zWks); clear H; intro q5 _ H) | (refine alA H ?_ (hz := zJob); clear H; intro q6 _ H))
      | (go_at_call 10; refine (typed_any _ H.out.tb).mono ?_; rintro _ _ ⟨rfl, hb⟩; replace H := Lib.hid (H.out.go hb); clear hb)
      | (go_at_call 13; refine Calls.mono (TCheck_any 3 w _ _ E EJ (armN.take na) (partN.take np) ((slotN.take ns).map sltOf) _ ⟨#[116, 97, 115, 107]⟩ l _ H WV (Lib.hid fun x hx => .tail _ (.tail _ (List.mem_append_right _ (List.mem_append_right _ (List.mem_append_right _ (HEE.out x hx)))))) (Lib.hid fun x hx => .tail _ (.tail _ (List.mem_append_right _ (List.mem_append_right _ (List.mem_append_right _ (HEJ.out x hx)))))) HR hbx (by decide) HC HSL) ?_; rintro _ _ ⟨rfl, h2⟩; replace H := Lib.hid h2; clear h2; rw [HG.out])
      | ((with_reducible refine isSlc ?_); refine bsA 22 [.slice Va m1 d1, .slice Vp m2 d2, .slice Vs m3 d3] 3 H ?_; clear H; intro ql _ H))
  go_loopw [44] (fun i_ wr => ∃ j : Nat, i_ = .int .i64 j ∧ j ≤ 3 ∧ Hid (Hp w wr ((ql, 22, [.slice Va m1 d1, .slice Vp m2 d2, .slice Vs m3 d3]) :: (q6, 58, [.string ⟨#[116, 97, 115, 107]⟩, .slice Bx nll cx]) :: (q5, 31, [.slice Ba n1 ca, .slice none 0 0, .slice Bp n2 cp, .slice Bs n3 cc, .slice none 0 0, .bool false, .string ⟨#[]⟩, .string ⟨#[]⟩]) :: (rowE (.slice Va m1 d1) 3 k1 ++ (rowE (.slice Vp m2 d2) 3 k2 ++ (rowE (.slice Vs m3 d3) 3 k3 ++ (EJ ++ E))))))) (fun i_ _ => 3 - (intOf i_).toNat)
  case atStart => exact ⟨0, rfl, by omega, H⟩
  case round =>
    clear H
    obtain ⟨j, rfl, hj, H⟩ := hrel
    rcases (by omega : j = 0 ∨ j = 1 ∨ j = 2 ∨ j = 3) with rfl | rfl | rfl | rfl
    · have l0p : ¬ (2 < (m1 : Int)) := by omega
      have l0d : decide (2 < (m1 : Int)) = false := decide_eq_false l0p
      go_wp2_with (first
          | go_skip
          | ((with_reducible refine isLoad ?_); refine ldA H ?_ (hT := by first | exact rJob | exact rStm8 | exact rWks | exact rGoa))
          | ((with_reducible refine isLoad ?_); refine ld1A H ?_ (hT := by first | exact kInt | exact kStl | exact kBll | exact kArl | exact kPrl | exact kSll | exact kInl))
          | (go_at_call 14; refine Calls.mono (IsSorted_any w _ _ _ _ _ _ H (Lib.hid fun x hx => .tail _ (.tail _ (.tail _ (List.mem_append_left _ hx)))) R1 S1') ?_; rintro _ _ ⟨rfl, h2⟩; replace H := Lib.hid h2; clear h2))
      go_roundw
      case rel => first | exact ⟨1, by go_num, by omega, H⟩ | exact ⟨_, _, _, _, ⟨1, by go_num, by omega, H⟩, rfl, rfl⟩ | (trace_state; fail)
      case measure => simp [intOf]
    · have l1p : ¬ (2 < (m2 : Int)) := by omega
      have l1d : decide (2 < (m2 : Int)) = false := decide_eq_false l1p
      go_wp2_with (first
          | go_skip
          | ((with_reducible refine isLoad ?_); refine ldA H ?_ (hT := by first | exact rJob | exact rStm8 | exact rWks | exact rGoa))
          | ((with_reducible refine isLoad ?_); refine ld1A H ?_ (hT := by first | exact kInt | exact kStl | exact kBll | exact kArl | exact kPrl | exact kSll | exact kInl))
          | (go_at_call 14; refine Calls.mono (IsSorted_any w _ _ _ _ _ _ H (Lib.hid fun x hx => .tail _ (.tail _ (.tail _ (List.mem_append_right _ (List.mem_append_left _ hx))))) R2 S2') ?_; rintro _ _ ⟨rfl, h2⟩; replace H := Lib.hid h2; clear h2))
      go_roundw
      case rel => first | exact ⟨2, by go_num, by omega, H⟩ | exact ⟨_, _, _, _, ⟨2, by go_num, by omega, H⟩, rfl, rfl⟩ | (trace_state; fail)
      case measure => simp [intOf]
    · have l2p : ¬ (2 < (m3 : Int)) := by omega
      have l2d : decide (2 < (m3 : Int)) = false := decide_eq_false l2p
      go_wp2_with (first
          | go_skip
          | ((with_reducible refine isLoad ?_); refine ldA H ?_ (hT := by first | exact rJob | exact rStm8 | exact rWks | exact rGoa))
          | ((with_reducible refine isLoad ?_); refine ld1A H ?_ (hT := by first | exact kInt | exact kStl | exact kBll | exact kArl | exact kPrl | exact kSll | exact kInl))
          | (go_at_call 14; refine Calls.mono (IsSorted_any w _ _ _ _ _ _ H (Lib.hid fun x hx => .tail _ (.tail _ (.tail _ (List.mem_append_right _ (List.mem_append_right _ (List.mem_append_left _ hx)))))) R3 S3') ?_; rintro _ _ ⟨rfl, h2⟩; replace H := Lib.hid h2; clear h2))
      go_roundw
      case rel => first | exact ⟨3, by go_num, by omega, H⟩ | exact ⟨_, _, _, _, ⟨3, by go_num, by omega, H⟩, rfl, rfl⟩ | (trace_state; fail)
      case measure => simp [intOf]
    · obtain ⟨an, han⟩ : ∃ b, (lvL 3 l).any (fun y => decide (y.k = 1 ∨ y.k = 2 ∨ y.k = 4)) = b := ⟨_, rfl⟩
      have hno := HNO.out
      have hpt := HPT.out
      rw [han] at hno hpt
      have HPT' := Lib.hid hpt
      replace HNO := Lib.hid hno
      clear han hno hpt HPT
      cases an with
      | false =>
        have hx2 := HPT'.out.2 rfl
        obtain rfl : m2 = 0 := by rw [← HL2.out, hx2]; rfl
        clear hx2
        replace HNO : Hid ((goalsP (armN.take na) [] ((slotN.take ns).map sltOf) (lvL 3 l) []).2 = 0) := Lib.hid (HNO.out.trans (by simp))
        go_wp2_with (first
            | go_skip
            | ((with_reducible refine isLoad ?_); refine ldA H ?_ (hT := by first | exact rJob | exact rStm8 | exact rWks | exact rGoa))
            | ((with_reducible refine isLoad ?_); refine ld1A H ?_ (hT := by first | exact kInt | exact kStl | exact kBll | exact kArl | exact kPrl | exact kSll | exact kInl))
            | ((with_reducible refine isStore ?_); refine st1A H ?_ (hT := sPrl); clear H; intro _ H)
            | (go_at_call 13; refine Calls.mono (TCheck_any 3 w _ _ E EJ (armN.take na) [] ((slotN.take ns).map sltOf) [.slice Ba n1 ca, .slice none 0 0, .slice none 0 0, .slice Bs n3 cc, .slice none 0 0, .bool false, .string ⟨#[]⟩, .string ⟨#[]⟩] ⟨#[116, 97, 115, 107]⟩ l _ H (Lib.hid ⟨_, _, _, rfl, by rw [HE1.out]; exact RA.out, RowIn.nil _ _ _, by rw [HE3.out]; exact RS.out⟩) (Lib.hid fun x hx => .tail _ (.tail _ (.tail _ (List.mem_append_right _ (List.mem_append_right _ (List.mem_append_right _ (HEE.out x hx))))))) (Lib.hid fun x hx => .tail _ (.tail _ (.tail _ (List.mem_append_right _ (List.mem_append_right _ (List.mem_append_right _ (HEJ.out x hx))))))) HR hbx (by decide) HC HSL) ?_; rintro _ _ ⟨rfl, h2⟩; replace H := Lib.hid h2; clear h2; rw [HNO.out]))
        go_ret
        exact ⟨by simp, H.out.bel⟩
      | true =>
        have hm0 : ¬ m2 = 0 := fun h => by have := HPT'.out.1 (List.eq_nil_of_length_eq_zero (by rw [HL2.out]; exact h)); cases this
        have m0p : 0 < (m2 : Int) := by omega
        have m0d : decide (0 < (m2 : Int)) = true := decide_eq_true m0p
        have m1p : ¬ ((m2 : Int) = 0) := by omega
        have m1d : decide ((m2 : Int) = 0) = false := decide_eq_false m1p
        replace HNO : Hid ((goalsP (armN.take na) [] ((slotN.take ns).map sltOf) (lvL 3 l) []).2 = 16) := Lib.hid (HNO.out.trans (by simp))
        go_wp2_with (first
            | go_skip
            | ((with_reducible refine isLoad ?_); refine ldA H ?_ (hT := by first | exact rJob | exact rStm8 | exact rWks | exact rGoa))
            | ((with_reducible refine isLoad ?_); refine ld1A H ?_ (hT := by first | exact kInt | exact kStl | exact kBll | exact kArl | exact kPrl | exact kSll | exact kInl))
            | ((with_reducible refine isStore ?_); refine st1A H ?_ (hT := sPrl); clear H; intro _ H)
            | (go_at_call 13; refine Calls.mono (TCheck_any 3 w _ _ E EJ (armN.take na) [] ((slotN.take ns).map sltOf) [.slice Ba n1 ca, .slice none 0 0, .slice none 0 0, .slice Bs n3 cc, .slice none 0 0, .bool false, .string ⟨#[]⟩, .string ⟨#[]⟩] ⟨#[116, 97, 115, 107]⟩ l _ H (Lib.hid ⟨_, _, _, rfl, by rw [HE1.out]; exact RA.out, RowIn.nil _ _ _, by rw [HE3.out]; exact RS.out⟩) (Lib.hid fun x hx => .tail _ (.tail _ (.tail _ (List.mem_append_right _ (List.mem_append_right _ (List.mem_append_right _ (HEE.out x hx))))))) (Lib.hid fun x hx => .tail _ (.tail _ (.tail _ (List.mem_append_right _ (List.mem_append_right _ (List.mem_append_right _ (HEJ.out x hx))))))) HR hbx (by decide) HC HSL) ?_; rintro _ _ ⟨rfl, h2⟩; replace H := Lib.hid h2; clear h2; rw [HNO.out]))
        go_ret
        exact ⟨by simp, H.out.bel⟩
end Go.Proofs.YtbphdmnomakeoaaDoor
