/- gantkeep4.stmt at the lesser depths. Printed by gen/jobs.py. · gantkeep4.stmts. Printed by gen/jobs.py. · gantkeep4.Job. Printed by gen/jobs.py. · parse.Leaves: the closure. Printed by gen/goal.py. · parse.Leaves: the closure, at all depths. Printed by gen/goal.py. · parse.Leaves. Printed by gen/goal.py. · The maker's jobs are in order: weights, goals. No walk. · the printer of jobs: put. Printed by gen/weigh.py. · numbers below ten as texts. Printed by gen/weigh.py. · the printer at a wait, at lists. Printed by gen/weigh.py. · the printer at lists. Printed by gen/weigh.py. -/
import Derived.Test.YtbphdmnomakeoaaDoorJw23
namespace Go.Proofs.YtbphdmnomakeoaaDoor
open Go.RowKit
set_option linter.unusedVariables false
set_option maxRecDepth 100000

set_option maxHeartbeats 4000000 in
theorem stmtJ_inner (na np ns d p : Nat) (hna : 1 ≤ na ∧ na ≤ 2) (hnp : 1 ≤ np ∧ np ≤ 2) (hns : 1 ≤ ns ∧ ns ≤ 2) (hp1 : 1 ≤ p) (hp2 : p ≤ 2) (hC : StsJ na np ns (p + 1) d) : StmJ na np ns p (d + 1) := by
  obtain ⟨hna1, hna2⟩ := hna
  obtain ⟨hnp1, hnp2⟩ := hnp
  obtain ⟨hns1, hns2⟩ := hns
  have HC := Lib.hid hC
  clear hC
  intro w0 w m E0 b S cs H HS WV HE
  obtain ⟨av, pv, sv, rfl, RA, RP, RS⟩ := WV.out
  have la : (armN.take na).length = na := by simp [armN]; omega
  have lp : (partN.take np).length = np := by simp [partN]; omega
  have ls : ((slotN.take ns).map sltOf).length = ns := by simp [slotN]; omega
  rw [la] at RA
  rw [lp] at RP
  rw [ls] at RS
  obtain ⟨Ba, ca, rfl, _⟩ := RA.shape
  obtain ⟨Bp, cp, rfl, _⟩ := RP.shape
  obtain ⟨Bs, cc, rfl, _⟩ := RS.shape
  obtain ⟨ga, rfl⟩ := RA.blk0 (by omega)
  obtain ⟨gp, rfl⟩ := RP.blk0 (by omega)
  obtain ⟨gs, rfl⟩ := RS.blk0 (by omega)
  replace RA := Lib.hid RA
  replace RP := Lib.hid RP
  replace RS := Lib.hid RS
  have LA := Lib.hid la
  have LP := Lib.hid lp
  have LS := Lib.hid ls
  clear la lp ls
  obtain ⟨iP, hxP⟩ : ∃ i : Nat, S.nx np = i := ⟨(S.nx np).toNat, by have := S.nx_bd np (by omega); omega⟩
  have hiP : iP < np := by have := S.nx_bd np (by omega); omega
  have HXP := Lib.hid hxP
  obtain ⟨nmP, hnmP⟩ : ∃ x, (partN.take np)[iP]? = some x := ⟨_, List.getElem?_eq_getElem (by rw [LP.out]; exact hiP)⟩
  obtain ⟨gP, cP, egP, hrP⟩ := RP.out.at_ partC_len hnmP (by decide)
  injection egP with egP _ ecP
  injection egP with egP
  injection egP with egP
  subst egP
  have HRP : Hid (∀ W, Hld E0 W → W.cell? ⟨gp, iP * 12, none⟩ = some (.string nmP)) := Lib.hid fun W hW => rangeAt_cell (hrP W hW)
  have HNP : Hid (nmP ∈ partN.take np) := Lib.hid (by exact List.mem_of_getElem? hnmP)
  clear hrP hnmP hxP ecP
  go_enter Tryd.func39, Tryd.ntmps39
  go_wp2_with (first
      | go_skip
      | ((with_reducible refine isBox ?_); refine bxA H ?_; clear H; intro q _ H)
      | ((with_reducible refine isAlloc ?_); refine alA H ?_ (hz := zStm8); clear H; intro q6 _ H))
  refine wp_region_Y 10 [.c (.pointer (some ⟨q, 2, none⟩)), .c (.slice (some ⟨gp, 0, none⟩) np cp), .c (.pointer (some ⟨b, 0, none⟩)), .c (.pointer (some ⟨q, 2, none⟩)), .c (.slice (some ⟨gp, 0, none⟩) np cp), .c (.int .i64 np), .y, .c (.pointer (some ⟨gp, iP * 12, none⟩)), .c (.pointer (some ⟨gp, iP * 12, none⟩)), .c (.string nmP)] ((q6, 53, [.int .i64 0, .string ⟨#[]⟩, .string ⟨#[]⟩, .bool false, .string ⟨#[]⟩, .string ⟨#[]⟩, .int .i64 0, .slice none 0 0]) :: (q, 31, [.slice (some ⟨ga, 0, none⟩) na ca, .slice none 0 0, .slice (some ⟨gp, 0, none⟩) np cp, .slice (some ⟨gs, 0, none⟩) ns cc, .slice none 0 0, .bool false, .string ⟨#[]⟩, .string ⟨#[]⟩]) :: m) H (by (repeat (first | exact List.Sublist.refl _ | refine List.Sublist.cons_cons _ ?_ | refine List.Sublist.trans ?_ (List.sublist_append_right _ _) | refine List.Sublist.cons _ ?_))) (by kernel_rfl) (by kernel_rfl) (by kernel_rfl) ?_
  simp only [List.take_succ_cons, List.take_zero, List.drop_succ_cons, List.drop_zero]
  refine wpY_c (by rfl) (by (first | exact wanted_none rfl | exact wanted_some rfl rfl)) (by intro W _; first | (go_simp; rfl) | (go_simp; done) | (trace_state; fail)) ?_
  (simp only [Act.put, List.setIfInBounds_toArray, List.set_cons_succ, List.set_cons_zero])
  refine wpY_load1 (by rfl) (by rfl) (by (first | exact wanted_none rfl | exact wanted_some rfl rfl)) (by first | exact kPrl | exact kSll | exact kArl | exact kStr | exact kInt) (by rfl) (by (repeat (first | exact List.Mem.head _ | refine List.Mem.tail _ ?_ | assumption))) (by rfl) ?_
  (simp only [Act.put, List.setIfInBounds_toArray, List.set_cons_succ, List.set_cons_zero])
  refine wpY_c (by rfl) (by (first | exact wanted_none rfl | exact wanted_some rfl rfl)) (by intro W _; first | (go_simp; rfl) | (go_simp; done) | (trace_state; fail)) ?_
  (simp only [Act.put, List.setIfInBounds_toArray, List.set_cons_succ, List.set_cons_zero])
  refine wpY_c (by rfl) (by (first | exact wanted_none rfl | exact wanted_some rfl rfl)) (by intro W _; first | (go_simp; rfl) | (go_simp; done) | (trace_state; fail)) ?_
  (simp only [Act.put, List.setIfInBounds_toArray, List.set_cons_succ, List.set_cons_zero])
  refine wpY_load1 (by rfl) (by rfl) (by (first | exact wanted_none rfl | exact wanted_some rfl rfl)) (by first | exact kPrl | exact kSll | exact kArl | exact kStr | exact kInt) (by rfl) (by (repeat (first | exact List.Mem.head _ | refine List.Mem.tail _ ?_ | assumption))) (by rfl) ?_
  (simp only [Act.put, List.setIfInBounds_toArray, List.set_cons_succ, List.set_cons_zero])
  refine wpY_c (by rfl) (by (first | exact wanted_none rfl | exact wanted_some rfl rfl)) (by intro W _; first | (go_simp; rfl) | (go_simp; done) | (trace_state; fail)) ?_
  (simp only [Act.put, List.setIfInBounds_toArray, List.set_cons_succ, List.set_cons_zero])
  refine wpY_y (by rfl) (by (first | exact wanted_none rfl | exact wanted_some rfl rfl)) (fun G F W HF hG => ?_)
  go_simp
  unfold upY
  refine Calls.mono (nextH_any (m' := ((q6, 53, [.int .i64 0, .string ⟨#[]⟩, .string ⟨#[]⟩, .bool false, .string ⟨#[]⟩, .string ⟨#[]⟩, .int .i64 0, .slice none 0 0]) :: (q, 31, [.slice (some ⟨ga, 0, none⟩) na ca, .slice none 0 0, .slice (some ⟨gp, 0, none⟩) np cp, .slice (some ⟨gs, 0, none⟩) ns cc, .slice none 0 0, .bool false, .string ⟨#[]⟩, .string ⟨#[]⟩]) :: (b, 73, [S.sn.v]) :: m) ++ F) S b np HF HS (Lib.hid (by (repeat (first | apply Upd.head | apply Upd.tail | assumption)))) (by omega) (by omega)) ?_
  rintro _ W2 ⟨rfl, h2⟩
  refine ⟨_, rfl, hG _ _ ((q6, 53, [.int .i64 0, .string ⟨#[]⟩, .string ⟨#[]⟩, .bool false, .string ⟨#[]⟩, .string ⟨#[]⟩, .int .i64 0, .slice none 0 0]) :: (q, 31, [.slice (some ⟨ga, 0, none⟩) na ca, .slice none 0 0, .slice (some ⟨gp, 0, none⟩) np cp, .slice (some ⟨gs, 0, none⟩) ns cc, .slice none 0 0, .bool false, .string ⟨#[]⟩, .string ⟨#[]⟩]) :: (b, 73, [S.sn.v]) :: m) h2 (by (repeat (first | exact List.Sublist.refl _ | refine List.Sublist.cons_cons _ ?_ | refine List.Sublist.trans ?_ (List.sublist_append_right _ _) | refine List.Sublist.cons _ ?_))) ?_⟩
  clear HF hG h2
  rw [HXP.out]
  (simp only [Act.put, List.setIfInBounds_toArray, List.set_cons_succ, List.set_cons_zero])
  refine wpY_c (by rfl) (by (first | exact wanted_none rfl | exact wanted_some rfl rfl)) (by intro W _; first | (go_simp; rfl) | (go_simp; done) | (trace_state; fail)) ?_
  (simp only [Act.put, List.setIfInBounds_toArray, List.set_cons_succ, List.set_cons_zero])
  refine wpY_c (by rfl) (by (first | exact wanted_none rfl | exact wanted_some rfl rfl)) (by intro W _; first | (go_simp; rfl) | (go_simp; done) | (trace_state; fail)) ?_
  (simp only [Act.put, List.setIfInBounds_toArray, List.set_cons_succ, List.set_cons_zero])
  refine wpY_loadX (by rfl) (by rfl) (by (first | exact wanted_none rfl | exact wanted_some rfl rfl)) kStr (by rfl) (by intro W HW; exact HRP.out _ (HW.out.hld (fun x hx => by have := HE.out x hx; simp only [List.mem_cons]; grind))) ?_
  (simp only [Act.put, List.setIfInBounds_toArray, List.set_cons_succ, List.set_cons_zero])
  refine wpY_nil ?_
  clear H
  intro _ H
  go_wp2_with (first
      | go_skip
      | ((with_reducible refine isBox ?_); refine bxA H ?_; clear H; intro q _ H)
      | ((with_reducible refine isAlloc ?_); refine alA H ?_ (hz := zStm8); clear H; intro q6 _ H))
  obtain ⟨k8, hk8⟩ : ∃ r, S.sn.nx 8 = r := ⟨_, rfl⟩
  have hbk8 := S.sn.nx_bd 8 (by omega)
  rw [hk8] at hbk8
  obtain ⟨hbk80, hbk81⟩ := hbk8
  have HVk8 := Lib.hid hk8
  clear hk8
  go_at_call 19
  refine Calls.mono (nextH_any S.sn b 8 H (Lib.hid (HS.out.next)) (Lib.hid (by (repeat (first | apply Upd.head | apply Upd.tail | assumption)))) (by omega) (by omega)) ?_
  rintro _ _ ⟨rfl, h2⟩
  replace H := Lib.hid h2
  clear h2
  rw [HVk8.out]
  have p2p : ¬ (2 < (p : Int)) := by omega
  have p2d : decide (2 < (p : Int)) = false := decide_eq_false p2p
  have hwp : IntKind.i64.wrap ((p : Int) + 1) = (p : Int) + 1 := IntWalk.i64_in _ (by omega)
  rcases (by omega : k8 = 0 ∨ k8 = 1 ∨ k8 = 2 ∨ k8 = 3 ∨ k8 = 4 ∨ k8 = 5 ∨ k8 = 6 ∨ k8 = 7) with rfl | rfl | rfl | rfl | rfl | rfl | rfl | rfl
  · obtain ⟨iS, hxS⟩ : ∃ i : Nat, S.sn.sn.nx ns = i := ⟨(S.sn.sn.nx ns).toNat, by have := S.sn.sn.nx_bd ns (by omega); omega⟩
    have hiS : iS < ns := by have := S.sn.sn.nx_bd ns (by omega); omega
    have HXS := Lib.hid hxS
    obtain ⟨nmS, hnmS⟩ : ∃ x, ((slotN.take ns).map sltOf)[iS]? = some x := ⟨_, List.getElem?_eq_getElem (by rw [LS.out]; exact hiS)⟩
    obtain ⟨gS, cS, egS, hrS⟩ := RS.out.at_ Slt.len hnmS (by decide)
    injection egS with egS _ ecS
    injection egS with egS
    injection egS with egS
    subst egS
    have HRS : Hid (∀ W, Hld E0 W → W.cell? ⟨gs, iS * 14, none⟩ = some (.string nmS.nm)) := Lib.hid fun W hW => rangeAt_cell (hrS W hW)
    have HNS : Hid (nmS.nm ∈ slotN.take ns) := Lib.hid (by obtain ⟨y, hy, rfl⟩ := List.mem_map.1 (List.mem_of_getElem? hnmS); exact hy)
    clear hrS hnmS hxS ecS
    go_wp2_with (first
        | go_skip
        | ((with_reducible refine isAlloc ?_); refine alA H ?_ (hz := zStm8); clear H; intro q9 _ H)
        | ((with_reducible refine isStore ?_); refine stA H ?_ (hT := by first | exact rStm8 | exact rRat); clear H; intro _ H)
        | ((with_reducible refine isLoad ?_); refine ldA H ?_ (hT := by first | exact rStm8 | exact rWks)))
    refine wp_region_Y 13 [.c (.string nmP), .c (.pointer (some ⟨q, 3, none⟩)), .c (.slice (some ⟨gs, 0, none⟩) ns cc), .c (.pointer (some ⟨b, 0, none⟩)), .c (.pointer (some ⟨q, 3, none⟩)), .c (.slice (some ⟨gs, 0, none⟩) ns cc), .c (.int .i64 ns), .y, .c (.pointer (some ⟨gs, iS * 14, none⟩)), .c (.pointer (some ⟨gs, iS * 14, none⟩)), .c (.string nmS.nm), .c (.agg #[.int .i64 1, .string nmP, .string nmS.nm, .bool false, .string ⟨#[]⟩, .string ⟨#[]⟩, .int .i64 0, .slice none 0 0]), .a] ((q6, 53, [.int .i64 0, .string ⟨#[]⟩, .string ⟨#[]⟩, .bool false, .string ⟨#[]⟩, .string ⟨#[]⟩, .int .i64 0, .slice none 0 0]) :: (q, 31, [.slice (some ⟨ga, 0, none⟩) na ca, .slice none 0 0, .slice (some ⟨gp, 0, none⟩) np cp, .slice (some ⟨gs, 0, none⟩) ns cc, .slice none 0 0, .bool false, .string ⟨#[]⟩, .string ⟨#[]⟩]) :: m) H (by (repeat (first | exact List.Sublist.refl _ | refine List.Sublist.cons_cons _ ?_ | refine List.Sublist.trans ?_ (List.sublist_append_right _ _) | refine List.Sublist.cons _ ?_))) (by kernel_rfl) (by kernel_rfl) (by kernel_rfl) ?_
    simp only [List.take_succ_cons, List.take_zero, List.drop_succ_cons, List.drop_zero]
    refine wpY_c (by rfl) (by (first | exact wanted_none rfl | exact wanted_some rfl rfl)) (by intro W _; first | (go_simp; rfl) | (go_simp; done) | (trace_state; fail)) ?_
    (simp only [Act.put, List.setIfInBounds_toArray, List.set_cons_succ, List.set_cons_zero])
    refine wpY_c (by rfl) (by (first | exact wanted_none rfl | exact wanted_some rfl rfl)) (by intro W _; first | (go_simp; rfl) | (go_simp; done) | (trace_state; fail)) ?_
    (simp only [Act.put, List.setIfInBounds_toArray, List.set_cons_succ, List.set_cons_zero])
    refine wpY_load1 (by rfl) (by rfl) (by (first | exact wanted_none rfl | exact wanted_some rfl rfl)) (by first | exact kPrl | exact kSll | exact kArl | exact kStr | exact kInt) (by rfl) (by (repeat (first | exact List.Mem.head _ | refine List.Mem.tail _ ?_ | assumption))) (by rfl) ?_
    (simp only [Act.put, List.setIfInBounds_toArray, List.set_cons_succ, List.set_cons_zero])
    refine wpY_c (by rfl) (by (first | exact wanted_none rfl | exact wanted_some rfl rfl)) (by intro W _; first | (go_simp; rfl) | (go_simp; done) | (trace_state; fail)) ?_
    (simp only [Act.put, List.setIfInBounds_toArray, List.set_cons_succ, List.set_cons_zero])
    refine wpY_c (by rfl) (by (first | exact wanted_none rfl | exact wanted_some rfl rfl)) (by intro W _; first | (go_simp; rfl) | (go_simp; done) | (trace_state; fail)) ?_
    (simp only [Act.put, List.setIfInBounds_toArray, List.set_cons_succ, List.set_cons_zero])
    refine wpY_load1 (by rfl) (by rfl) (by (first | exact wanted_none rfl | exact wanted_some rfl rfl)) (by first | exact kPrl | exact kSll | exact kArl | exact kStr | exact kInt) (by rfl) (by (repeat (first | exact List.Mem.head _ | refine List.Mem.tail _ ?_ | assumption))) (by rfl) ?_
    (simp only [Act.put, List.setIfInBounds_toArray, List.set_cons_succ, List.set_cons_zero])
    refine wpY_c (by rfl) (by (first | exact wanted_none rfl | exact wanted_some rfl rfl)) (by intro W _; first | (go_simp; rfl) | (go_simp; done) | (trace_state; fail)) ?_
    (simp only [Act.put, List.setIfInBounds_toArray, List.set_cons_succ, List.set_cons_zero])
    refine wpY_y (by rfl) (by (first | exact wanted_none rfl | exact wanted_some rfl rfl)) (fun G F W HF hG => ?_)
    go_simp
    unfold upY
    refine Calls.mono (nextH_any (m' := ((q6, 53, [.int .i64 0, .string ⟨#[]⟩, .string ⟨#[]⟩, .bool false, .string ⟨#[]⟩, .string ⟨#[]⟩, .int .i64 0, .slice none 0 0]) :: (q, 31, [.slice (some ⟨ga, 0, none⟩) na ca, .slice none 0 0, .slice (some ⟨gp, 0, none⟩) np cp, .slice (some ⟨gs, 0, none⟩) ns cc, .slice none 0 0, .bool false, .string ⟨#[]⟩, .string ⟨#[]⟩]) :: (b, 73, [S.sn.sn.sn.v]) :: m) ++ F) S.sn.sn b ns HF (Lib.hid (HS.out.next.next)) (Lib.hid (by (repeat (first | apply Upd.head | apply Upd.tail | assumption)))) (by omega) (by omega)) ?_
    rintro _ W2 ⟨rfl, h2⟩
    refine ⟨_, rfl, hG _ _ ((q6, 53, [.int .i64 0, .string ⟨#[]⟩, .string ⟨#[]⟩, .bool false, .string ⟨#[]⟩, .string ⟨#[]⟩, .int .i64 0, .slice none 0 0]) :: (q, 31, [.slice (some ⟨ga, 0, none⟩) na ca, .slice none 0 0, .slice (some ⟨gp, 0, none⟩) np cp, .slice (some ⟨gs, 0, none⟩) ns cc, .slice none 0 0, .bool false, .string ⟨#[]⟩, .string ⟨#[]⟩]) :: (b, 73, [S.sn.sn.sn.v]) :: m) h2 (by (repeat (first | exact List.Sublist.refl _ | refine List.Sublist.cons_cons _ ?_ | refine List.Sublist.trans ?_ (List.sublist_append_right _ _) | refine List.Sublist.cons _ ?_))) ?_⟩
    clear HF hG h2
    rw [HXS.out]
    (simp only [Act.put, List.setIfInBounds_toArray, List.set_cons_succ, List.set_cons_zero])
    refine wpY_c (by rfl) (by (first | exact wanted_none rfl | exact wanted_some rfl rfl)) (by intro W _; first | (go_simp; rfl) | (go_simp; done) | (trace_state; fail)) ?_
    (simp only [Act.put, List.setIfInBounds_toArray, List.set_cons_succ, List.set_cons_zero])
    refine wpY_c (by rfl) (by (first | exact wanted_none rfl | exact wanted_some rfl rfl)) (by intro W _; first | (go_simp; rfl) | (go_simp; done) | (trace_state; fail)) ?_
    (simp only [Act.put, List.setIfInBounds_toArray, List.set_cons_succ, List.set_cons_zero])
    refine wpY_loadX (by rfl) (by rfl) (by (first | exact wanted_none rfl | exact wanted_some rfl rfl)) kStr (by rfl) (by intro W HW; exact HRS.out _ (HW.out.hld (fun x hx => by have := HE.out x hx; simp only [List.mem_cons]; grind))) ?_
    (simp only [Act.put, List.setIfInBounds_toArray, List.set_cons_succ, List.set_cons_zero])
    refine wpY_c (by rfl) (by (first | exact wanted_none rfl | exact wanted_some rfl rfl)) (by intro W _; first | (go_simp; rfl) | (go_simp; done) | (trace_state; fail)) ?_
    (simp only [Act.put, List.setIfInBounds_toArray, List.set_cons_succ, List.set_cons_zero])
    refine wpY_al (by rfl) (by rfl) (by rfl) zStm8 (by (simp only [Value.cells]; rfl)) ?_
    intro q9
    (simp only [Act.put, List.setIfInBounds_toArray, List.set_cons_succ, List.set_cons_zero])
    refine wpY_nil ?_
    clear H
    intro _ H
    go_wp2_with (first
        | go_skip
        | ((with_reducible refine isAlloc ?_); refine alA H ?_ (hz := zStm8); clear H; intro q9 _ H)
        | ((with_reducible refine isStore ?_); refine stA H ?_ (hT := by first | exact rStm8 | exact rRat); clear H; intro _ H)
        | ((with_reducible refine isLoad ?_); refine ldA H ?_ (hT := by first | exact rStm8 | exact rWks)))
    obtain ⟨x3, hx3⟩ : ∃ r, S.sn.sn.sn.nx 3 = r := ⟨_, rfl⟩
    have hbx3 := S.sn.sn.sn.nx_bd 3 (by omega)
    rw [hx3] at hbx3
    obtain ⟨hbx30, hbx31⟩ := hbx3
    have HVx3 := Lib.hid hx3
    clear hx3
    go_at_call 19
    refine Calls.mono (nextH_any S.sn.sn.sn b 3 H (Lib.hid (HS.out.next.next.next)) (Lib.hid (by (repeat (first | apply Upd.head | apply Upd.tail | assumption)))) (by omega) (by omega)) ?_
    rintro _ _ ⟨rfl, h2⟩
    replace H := Lib.hid h2
    clear h2
    rw [HVx3.out]
    by_cases h3 : x3 = 0
    · subst h3
      go_wp2_with (first
          | go_skip
          | ((with_reducible refine isAlloc ?_); refine alA H ?_ (hz := zStm8); clear H; intro q9 _ H)
          | ((with_reducible refine isStore ?_); refine stA H ?_ (hT := by first | exact rStm8 | exact rRat); clear H; intro _ H)
          | ((with_reducible refine isLoad ?_); refine ldA H ?_ (hT := by first | exact rStm8 | exact rWks)))
      obtain ⟨r5, hr5⟩ : ∃ r, S.sn.sn.sn.sn.nx 5 = r := ⟨_, rfl⟩
      have hbr5 := S.sn.sn.sn.sn.nx_bd 5 (by omega)
      rw [hr5] at hbr5
      obtain ⟨hbr50, hbr51⟩ := hbr5
      have HVr5 := Lib.hid hr5
      clear hr5
      obtain ⟨D, hD⟩ : ∃ D : Nat, 4 + r5 = (D : Int) := ⟨(4 + r5).toNat, by omega⟩
      have hD4 : 4 ≤ D := by omega
      have hD8 : D ≤ 8 := by omega
      go_at_call 19
      refine Calls.mono (nextH_any S.sn.sn.sn.sn b 5 H (Lib.hid (HS.out.next.next.next.next)) (Lib.hid (by (repeat (first | apply Upd.head | apply Upd.tail | assumption)))) (by omega) (by omega)) ?_
      rintro _ _ ⟨rfl, h2⟩
      replace H := Lib.hid h2
      clear h2
      rw [HVr5.out]
      go_wp2_with (first
          | go_skip
          | ((with_reducible refine isAlloc ?_); refine alA H ?_ (hz := zStm8); clear H; intro q9 _ H)
          | ((with_reducible refine isStore ?_); refine stA H ?_ (hT := by first | exact rStm8 | exact rRat); clear H; intro _ H)
          | ((with_reducible refine isLoad ?_); refine ldA H ?_ (hT := by first | exact rStm8 | exact rWks)))
      obtain ⟨q0, hq0⟩ : ∃ x, ofQ 1 D = x := ⟨_, rfl⟩
      have HQ := Lib.hid hq0
      go_at_call 9
      refine Calls.mono (ofQ_any 1 D q0 _ (by decide) (by decide) (by omega) (by omega) HQ) ?_
      rintro _ _ ⟨rfl, hb⟩
      replace H := Lib.hid (H.out.go hb)
      clear hb hq0 hD
      go_wp2_with (first
          | go_skip
          | ((with_reducible refine isAlloc ?_); refine alA H ?_ (hz := zStm8); clear H; intro q9 _ H)
          | ((with_reducible refine isStore ?_); refine stA H ?_ (hT := by first | exact rStm8 | exact rRat); clear H; intro _ H)
          | ((with_reducible refine isLoad ?_); refine ldA H ?_ (hT := by first | exact rStm8 | exact rWks)))
      exact bodyPost_ret (results_H H Tryd.results39 (by exact rStm8) rfl (by (repeat (first | exact List.Mem.head _ | refine List.Mem.tail _ ?_ | assumption))) (by rfl)) rfl ⟨⟨1, nmP, nmS.nm, (some q0), 0, .slice none 0 0⟩, .mk 1 nmP nmS.nm (some q0) 0 [], S.sn.sn.sn.sn.sn, [], rfl, (Lib.hid (HS.out.next.next.next.next.next)).out, H.out.sub (by (repeat (first | exact List.Sublist.refl _ | refine List.Sublist.cons_cons _ ?_ | refine List.Sublist.trans ?_ (List.sublist_append_right _ _) | refine List.Sublist.cons _ ?_))), RSt.leaf _ ⟨small_i (x := 1) (by omega), small_i (x := 0) (by omega), pn_sz HNP.out, sn_sz HNS.out, by rw [← HQ.out]; exact ofq_sm D hD4 hD8⟩, .inl ⟨rfl, HNP.out, HNS.out, .inr ⟨D, hD4, hD8, by rw [← HQ.out]; rfl⟩, rfl, rfl⟩⟩
    · have x30p : ¬ (x3 = 0) := h3
      have x30d : decide (x3 = 0) = false := decide_eq_false x30p
      go_wp2_with (first
          | go_skip
          | ((with_reducible refine isAlloc ?_); refine alA H ?_ (hz := zStm8); clear H; intro q9 _ H)
          | ((with_reducible refine isStore ?_); refine stA H ?_ (hT := by first | exact rStm8 | exact rRat); clear H; intro _ H)
          | ((with_reducible refine isLoad ?_); refine ldA H ?_ (hT := by first | exact rStm8 | exact rWks)))
      exact bodyPost_ret (results_H H Tryd.results39 (by exact rStm8) rfl (by (repeat (first | exact List.Mem.head _ | refine List.Mem.tail _ ?_ | assumption))) (by rfl)) rfl ⟨⟨1, nmP, nmS.nm, none, 0, .slice none 0 0⟩, .mk 1 nmP nmS.nm none 0 [], S.sn.sn.sn.sn, [], rfl, (Lib.hid (HS.out.next.next.next.next)).out, H.out.sub (by (repeat (first | exact List.Sublist.refl _ | refine List.Sublist.cons_cons _ ?_ | refine List.Sublist.trans ?_ (List.sublist_append_right _ _) | refine List.Sublist.cons _ ?_))), RSt.leaf _ ⟨small_i (x := 1) (by omega), small_i (x := 0) (by omega), pn_sz HNP.out, sn_sz HNS.out, SmO.none⟩, .inl ⟨rfl, HNP.out, HNS.out, .inl rfl, rfl, rfl⟩⟩
  · obtain ⟨iS, hxS⟩ : ∃ i : Nat, S.sn.sn.nx ns = i := ⟨(S.sn.sn.nx ns).toNat, by have := S.sn.sn.nx_bd ns (by omega); omega⟩
    have hiS : iS < ns := by have := S.sn.sn.nx_bd ns (by omega); omega
    have HXS := Lib.hid hxS
    obtain ⟨nmS, hnmS⟩ : ∃ x, ((slotN.take ns).map sltOf)[iS]? = some x := ⟨_, List.getElem?_eq_getElem (by rw [LS.out]; exact hiS)⟩
    obtain ⟨gS, cS, egS, hrS⟩ := RS.out.at_ Slt.len hnmS (by decide)
    injection egS with egS _ ecS
    injection egS with egS
    injection egS with egS
    subst egS
    have HRS : Hid (∀ W, Hld E0 W → W.cell? ⟨gs, iS * 14, none⟩ = some (.string nmS.nm)) := Lib.hid fun W hW => rangeAt_cell (hrS W hW)
    have HNS : Hid (nmS.nm ∈ slotN.take ns) := Lib.hid (by obtain ⟨y, hy, rfl⟩ := List.mem_map.1 (List.mem_of_getElem? hnmS); exact hy)
    clear hrS hnmS hxS ecS
    go_wp2_with (first
        | go_skip
        | ((with_reducible refine isAlloc ?_); refine alA H ?_ (hz := zStm8); clear H; intro q9 _ H)
        | ((with_reducible refine isStore ?_); refine stA H ?_ (hT := by first | exact rStm8 | exact rRat); clear H; intro _ H)
        | ((with_reducible refine isLoad ?_); refine ldA H ?_ (hT := by first | exact rStm8 | exact rWks)))
    refine wp_region_Y 13 [.c (.string nmP), .c (.pointer (some ⟨q, 3, none⟩)), .c (.slice (some ⟨gs, 0, none⟩) ns cc), .c (.pointer (some ⟨b, 0, none⟩)), .c (.pointer (some ⟨q, 3, none⟩)), .c (.slice (some ⟨gs, 0, none⟩) ns cc), .c (.int .i64 ns), .y, .c (.pointer (some ⟨gs, iS * 14, none⟩)), .c (.pointer (some ⟨gs, iS * 14, none⟩)), .c (.string nmS.nm), .c (.agg #[.int .i64 1, .string nmP, .string nmS.nm, .bool false, .string ⟨#[]⟩, .string ⟨#[]⟩, .int .i64 0, .slice none 0 0]), .a] ((q6, 53, [.int .i64 0, .string ⟨#[]⟩, .string ⟨#[]⟩, .bool false, .string ⟨#[]⟩, .string ⟨#[]⟩, .int .i64 0, .slice none 0 0]) :: (q, 31, [.slice (some ⟨ga, 0, none⟩) na ca, .slice none 0 0, .slice (some ⟨gp, 0, none⟩) np cp, .slice (some ⟨gs, 0, none⟩) ns cc, .slice none 0 0, .bool false, .string ⟨#[]⟩, .string ⟨#[]⟩]) :: m) H (by (repeat (first | exact List.Sublist.refl _ | refine List.Sublist.cons_cons _ ?_ | refine List.Sublist.trans ?_ (List.sublist_append_right _ _) | refine List.Sublist.cons _ ?_))) (by kernel_rfl) (by kernel_rfl) (by kernel_rfl) ?_
    simp only [List.take_succ_cons, List.take_zero, List.drop_succ_cons, List.drop_zero]
    refine wpY_c (by rfl) (by (first | exact wanted_none rfl | exact wanted_some rfl rfl)) (by intro W _; first | (go_simp; rfl) | (go_simp; done) | (trace_state; fail)) ?_
    (simp only [Act.put, List.setIfInBounds_toArray, List.set_cons_succ, List.set_cons_zero])
    refine wpY_c (by rfl) (by (first | exact wanted_none rfl | exact wanted_some rfl rfl)) (by intro W _; first | (go_simp; rfl) | (go_simp; done) | (trace_state; fail)) ?_
    (simp only [Act.put, List.setIfInBounds_toArray, List.set_cons_succ, List.set_cons_zero])
    refine wpY_load1 (by rfl) (by rfl) (by (first | exact wanted_none rfl | exact wanted_some rfl rfl)) (by first | exact kPrl | exact kSll | exact kArl | exact kStr | exact kInt) (by rfl) (by (repeat (first | exact List.Mem.head _ | refine List.Mem.tail _ ?_ | assumption))) (by rfl) ?_
    (simp only [Act.put, List.setIfInBounds_toArray, List.set_cons_succ, List.set_cons_zero])
    refine wpY_c (by rfl) (by (first | exact wanted_none rfl | exact wanted_some rfl rfl)) (by intro W _; first | (go_simp; rfl) | (go_simp; done) | (trace_state; fail)) ?_
    (simp only [Act.put, List.setIfInBounds_toArray, List.set_cons_succ, List.set_cons_zero])
    refine wpY_c (by rfl) (by (first | exact wanted_none rfl | exact wanted_some rfl rfl)) (by intro W _; first | (go_simp; rfl) | (go_simp; done) | (trace_state; fail)) ?_
    (simp only [Act.put, List.setIfInBounds_toArray, List.set_cons_succ, List.set_cons_zero])
    refine wpY_load1 (by rfl) (by rfl) (by (first | exact wanted_none rfl | exact wanted_some rfl rfl)) (by first | exact kPrl | exact kSll | exact kArl | exact kStr | exact kInt) (by rfl) (by (repeat (first | exact List.Mem.head _ | refine List.Mem.tail _ ?_ | assumption))) (by rfl) ?_
    (simp only [Act.put, List.setIfInBounds_toArray, List.set_cons_succ, List.set_cons_zero])
    refine wpY_c (by rfl) (by (first | exact wanted_none rfl | exact wanted_some rfl rfl)) (by intro W _; first | (go_simp; rfl) | (go_simp; done) | (trace_state; fail)) ?_
    (simp only [Act.put, List.setIfInBounds_toArray, List.set_cons_succ, List.set_cons_zero])
    refine wpY_y (by rfl) (by (first | exact wanted_none rfl | exact wanted_some rfl rfl)) (fun G F W HF hG => ?_)
    go_simp
    unfold upY
    refine Calls.mono (nextH_any (m' := ((q6, 53, [.int .i64 0, .string ⟨#[]⟩, .string ⟨#[]⟩, .bool false, .string ⟨#[]⟩, .string ⟨#[]⟩, .int .i64 0, .slice none 0 0]) :: (q, 31, [.slice (some ⟨ga, 0, none⟩) na ca, .slice none 0 0, .slice (some ⟨gp, 0, none⟩) np cp, .slice (some ⟨gs, 0, none⟩) ns cc, .slice none 0 0, .bool false, .string ⟨#[]⟩, .string ⟨#[]⟩]) :: (b, 73, [S.sn.sn.sn.v]) :: m) ++ F) S.sn.sn b ns HF (Lib.hid (HS.out.next.next)) (Lib.hid (by (repeat (first | apply Upd.head | apply Upd.tail | assumption)))) (by omega) (by omega)) ?_
    rintro _ W2 ⟨rfl, h2⟩
    refine ⟨_, rfl, hG _ _ ((q6, 53, [.int .i64 0, .string ⟨#[]⟩, .string ⟨#[]⟩, .bool false, .string ⟨#[]⟩, .string ⟨#[]⟩, .int .i64 0, .slice none 0 0]) :: (q, 31, [.slice (some ⟨ga, 0, none⟩) na ca, .slice none 0 0, .slice (some ⟨gp, 0, none⟩) np cp, .slice (some ⟨gs, 0, none⟩) ns cc, .slice none 0 0, .bool false, .string ⟨#[]⟩, .string ⟨#[]⟩]) :: (b, 73, [S.sn.sn.sn.v]) :: m) h2 (by (repeat (first | exact List.Sublist.refl _ | refine List.Sublist.cons_cons _ ?_ | refine List.Sublist.trans ?_ (List.sublist_append_right _ _) | refine List.Sublist.cons _ ?_))) ?_⟩
    clear HF hG h2
    rw [HXS.out]
    (simp only [Act.put, List.setIfInBounds_toArray, List.set_cons_succ, List.set_cons_zero])
    refine wpY_c (by rfl) (by (first | exact wanted_none rfl | exact wanted_some rfl rfl)) (by intro W _; first | (go_simp; rfl) | (go_simp; done) | (trace_state; fail)) ?_
    (simp only [Act.put, List.setIfInBounds_toArray, List.set_cons_succ, List.set_cons_zero])
    refine wpY_c (by rfl) (by (first | exact wanted_none rfl | exact wanted_some rfl rfl)) (by intro W _; first | (go_simp; rfl) | (go_simp; done) | (trace_state; fail)) ?_
    (simp only [Act.put, List.setIfInBounds_toArray, List.set_cons_succ, List.set_cons_zero])
    refine wpY_loadX (by rfl) (by rfl) (by (first | exact wanted_none rfl | exact wanted_some rfl rfl)) kStr (by rfl) (by intro W HW; exact HRS.out _ (HW.out.hld (fun x hx => by have := HE.out x hx; simp only [List.mem_cons]; grind))) ?_
    (simp only [Act.put, List.setIfInBounds_toArray, List.set_cons_succ, List.set_cons_zero])
    refine wpY_c (by rfl) (by (first | exact wanted_none rfl | exact wanted_some rfl rfl)) (by intro W _; first | (go_simp; rfl) | (go_simp; done) | (trace_state; fail)) ?_
    (simp only [Act.put, List.setIfInBounds_toArray, List.set_cons_succ, List.set_cons_zero])
    refine wpY_al (by rfl) (by rfl) (by rfl) zStm8 (by (simp only [Value.cells]; rfl)) ?_
    intro q9
    (simp only [Act.put, List.setIfInBounds_toArray, List.set_cons_succ, List.set_cons_zero])
    refine wpY_nil ?_
    clear H
    intro _ H
    go_wp2_with (first
        | go_skip
        | ((with_reducible refine isAlloc ?_); refine alA H ?_ (hz := zStm8); clear H; intro q9 _ H)
        | ((with_reducible refine isStore ?_); refine stA H ?_ (hT := by first | exact rStm8 | exact rRat); clear H; intro _ H)
        | ((with_reducible refine isLoad ?_); refine ldA H ?_ (hT := by first | exact rStm8 | exact rWks)))
    obtain ⟨x3, hx3⟩ : ∃ r, S.sn.sn.sn.nx 3 = r := ⟨_, rfl⟩
    have hbx3 := S.sn.sn.sn.nx_bd 3 (by omega)
    rw [hx3] at hbx3
    obtain ⟨hbx30, hbx31⟩ := hbx3
    have HVx3 := Lib.hid hx3
    clear hx3
    go_at_call 19
    refine Calls.mono (nextH_any S.sn.sn.sn b 3 H (Lib.hid (HS.out.next.next.next)) (Lib.hid (by (repeat (first | apply Upd.head | apply Upd.tail | assumption)))) (by omega) (by omega)) ?_
    rintro _ _ ⟨rfl, h2⟩
    replace H := Lib.hid h2
    clear h2
    rw [HVx3.out]
    by_cases h3 : x3 = 0
    · subst h3
      go_wp2_with (first
          | go_skip
          | ((with_reducible refine isAlloc ?_); refine alA H ?_ (hz := zStm8); clear H; intro q9 _ H)
          | ((with_reducible refine isStore ?_); refine stA H ?_ (hT := by first | exact rStm8 | exact rRat); clear H; intro _ H)
          | ((with_reducible refine isLoad ?_); refine ldA H ?_ (hT := by first | exact rStm8 | exact rWks)))
      obtain ⟨r5, hr5⟩ : ∃ r, S.sn.sn.sn.sn.nx 5 = r := ⟨_, rfl⟩
      have hbr5 := S.sn.sn.sn.sn.nx_bd 5 (by omega)
      rw [hr5] at hbr5
      obtain ⟨hbr50, hbr51⟩ := hbr5
      have HVr5 := Lib.hid hr5
      clear hr5
      obtain ⟨D, hD⟩ : ∃ D : Nat, 4 + r5 = (D : Int) := ⟨(4 + r5).toNat, by omega⟩
      have hD4 : 4 ≤ D := by omega
      have hD8 : D ≤ 8 := by omega
      go_at_call 19
      refine Calls.mono (nextH_any S.sn.sn.sn.sn b 5 H (Lib.hid (HS.out.next.next.next.next)) (Lib.hid (by (repeat (first | apply Upd.head | apply Upd.tail | assumption)))) (by omega) (by omega)) ?_
      rintro _ _ ⟨rfl, h2⟩
      replace H := Lib.hid h2
      clear h2
      rw [HVr5.out]
      go_wp2_with (first
          | go_skip
          | ((with_reducible refine isAlloc ?_); refine alA H ?_ (hz := zStm8); clear H; intro q9 _ H)
          | ((with_reducible refine isStore ?_); refine stA H ?_ (hT := by first | exact rStm8 | exact rRat); clear H; intro _ H)
          | ((with_reducible refine isLoad ?_); refine ldA H ?_ (hT := by first | exact rStm8 | exact rWks)))
      obtain ⟨q0, hq0⟩ : ∃ x, ofQ 1 D = x := ⟨_, rfl⟩
      have HQ := Lib.hid hq0
      go_at_call 9
      refine Calls.mono (ofQ_any 1 D q0 _ (by decide) (by decide) (by omega) (by omega) HQ) ?_
      rintro _ _ ⟨rfl, hb⟩
      replace H := Lib.hid (H.out.go hb)
      clear hb hq0 hD
      go_wp2_with (first
          | go_skip
          | ((with_reducible refine isAlloc ?_); refine alA H ?_ (hz := zStm8); clear H; intro q9 _ H)
          | ((with_reducible refine isStore ?_); refine stA H ?_ (hT := by first | exact rStm8 | exact rRat); clear H; intro _ H)
          | ((with_reducible refine isLoad ?_); refine ldA H ?_ (hT := by first | exact rStm8 | exact rWks)))
      exact bodyPost_ret (results_H H Tryd.results39 (by exact rStm8) rfl (by (repeat (first | exact List.Mem.head _ | refine List.Mem.tail _ ?_ | assumption))) (by rfl)) rfl ⟨⟨1, nmP, nmS.nm, (some q0), 0, .slice none 0 0⟩, .mk 1 nmP nmS.nm (some q0) 0 [], S.sn.sn.sn.sn.sn, [], rfl, (Lib.hid (HS.out.next.next.next.next.next)).out, H.out.sub (by (repeat (first | exact List.Sublist.refl _ | refine List.Sublist.cons_cons _ ?_ | refine List.Sublist.trans ?_ (List.sublist_append_right _ _) | refine List.Sublist.cons _ ?_))), RSt.leaf _ ⟨small_i (x := 1) (by omega), small_i (x := 0) (by omega), pn_sz HNP.out, sn_sz HNS.out, by rw [← HQ.out]; exact ofq_sm D hD4 hD8⟩, .inl ⟨rfl, HNP.out, HNS.out, .inr ⟨D, hD4, hD8, by rw [← HQ.out]; rfl⟩, rfl, rfl⟩⟩
    · have x30p : ¬ (x3 = 0) := h3
      have x30d : decide (x3 = 0) = false := decide_eq_false x30p
      go_wp2_with (first
          | go_skip
          | ((with_reducible refine isAlloc ?_); refine alA H ?_ (hz := zStm8); clear H; intro q9 _ H)
          | ((with_reducible refine isStore ?_); refine stA H ?_ (hT := by first | exact rStm8 | exact rRat); clear H; intro _ H)
          | ((with_reducible refine isLoad ?_); refine ldA H ?_ (hT := by first | exact rStm8 | exact rWks)))
      exact bodyPost_ret (results_H H Tryd.results39 (by exact rStm8) rfl (by (repeat (first | exact List.Mem.head _ | refine List.Mem.tail _ ?_ | assumption))) (by rfl)) rfl ⟨⟨1, nmP, nmS.nm, none, 0, .slice none 0 0⟩, .mk 1 nmP nmS.nm none 0 [], S.sn.sn.sn.sn, [], rfl, (Lib.hid (HS.out.next.next.next.next)).out, H.out.sub (by (repeat (first | exact List.Sublist.refl _ | refine List.Sublist.cons_cons _ ?_ | refine List.Sublist.trans ?_ (List.sublist_append_right _ _) | refine List.Sublist.cons _ ?_))), RSt.leaf _ ⟨small_i (x := 1) (by omega), small_i (x := 0) (by omega), pn_sz HNP.out, sn_sz HNS.out, SmO.none⟩, .inl ⟨rfl, HNP.out, HNS.out, .inl rfl, rfl, rfl⟩⟩
  · obtain ⟨iA, hxA⟩ : ∃ i : Nat, S.sn.sn.nx na = i := ⟨(S.sn.sn.nx na).toNat, by have := S.sn.sn.nx_bd na (by omega); omega⟩
    have hiA : iA < na := by have := S.sn.sn.nx_bd na (by omega); omega
    have HXA := Lib.hid hxA
    obtain ⟨nmA, hnmA⟩ : ∃ x, (armN.take na)[iA]? = some x := ⟨_, List.getElem?_eq_getElem (by rw [LA.out]; exact hiA)⟩
    obtain ⟨gA, cA, egA, hrA⟩ := RA.out.at_ armC_len hnmA (by decide)
    injection egA with egA _ ecA
    injection egA with egA
    injection egA with egA
    subst egA
    have HRA : Hid (∀ W, Hld E0 W → W.cell? ⟨ga, iA * 12, none⟩ = some (.string nmA)) := Lib.hid fun W hW => rangeAt_cell (hrA W hW)
    have HNA : Hid (nmA ∈ armN.take na) := Lib.hid (by exact List.mem_of_getElem? hnmA)
    clear hrA hnmA hxA ecA
    go_wp2_with (first
        | go_skip
        | ((with_reducible refine isAlloc ?_); refine alA H ?_ (hz := zStm8); clear H; intro q9 _ H)
        | ((with_reducible refine isStore ?_); refine stA H ?_ (hT := by first | exact rStm8 | exact rRat); clear H; intro _ H)
        | ((with_reducible refine isLoad ?_); refine ldA H ?_ (hT := by first | exact rStm8 | exact rWks)))
    refine wp_region_Y 12 [.c (.string nmP), .c (.pointer (some ⟨q, 0, none⟩)), .c (.slice (some ⟨ga, 0, none⟩) na ca), .c (.pointer (some ⟨b, 0, none⟩)), .c (.pointer (some ⟨q, 0, none⟩)), .c (.slice (some ⟨ga, 0, none⟩) na ca), .c (.int .i64 na), .y, .c (.pointer (some ⟨ga, iA * 12, none⟩)), .c (.pointer (some ⟨ga, iA * 12, none⟩)), .c (.string nmA), .c (.agg #[.int .i64 2, .string nmP, .string nmA, .bool false, .string ⟨#[]⟩, .string ⟨#[]⟩, .int .i64 0, .slice none 0 0])] ((q6, 53, [.int .i64 0, .string ⟨#[]⟩, .string ⟨#[]⟩, .bool false, .string ⟨#[]⟩, .string ⟨#[]⟩, .int .i64 0, .slice none 0 0]) :: (q, 31, [.slice (some ⟨ga, 0, none⟩) na ca, .slice none 0 0, .slice (some ⟨gp, 0, none⟩) np cp, .slice (some ⟨gs, 0, none⟩) ns cc, .slice none 0 0, .bool false, .string ⟨#[]⟩, .string ⟨#[]⟩]) :: m) H (by (repeat (first | exact List.Sublist.refl _ | refine List.Sublist.cons_cons _ ?_ | refine List.Sublist.trans ?_ (List.sublist_append_right _ _) | refine List.Sublist.cons _ ?_))) (by kernel_rfl) (by kernel_rfl) (by kernel_rfl) ?_
    simp only [List.take_succ_cons, List.take_zero, List.drop_succ_cons, List.drop_zero]
    refine wpY_c (by rfl) (by (first | exact wanted_none rfl | exact wanted_some rfl rfl)) (by intro W _; first | (go_simp; rfl) | (go_simp; done) | (trace_state; fail)) ?_
    (simp only [Act.put, List.setIfInBounds_toArray, List.set_cons_succ, List.set_cons_zero])
    refine wpY_c (by rfl) (by (first | exact wanted_none rfl | exact wanted_some rfl rfl)) (by intro W _; first | (go_simp; rfl) | (go_simp; done) | (trace_state; fail)) ?_
    (simp only [Act.put, List.setIfInBounds_toArray, List.set_cons_succ, List.set_cons_zero])
    refine wpY_load1 (by rfl) (by rfl) (by (first | exact wanted_none rfl | exact wanted_some rfl rfl)) (by first | exact kPrl | exact kSll | exact kArl | exact kStr | exact kInt) (by rfl) (by (repeat (first | exact List.Mem.head _ | refine List.Mem.tail _ ?_ | assumption))) (by rfl) ?_
    (simp only [Act.put, List.setIfInBounds_toArray, List.set_cons_succ, List.set_cons_zero])
    refine wpY_c (by rfl) (by (first | exact wanted_none rfl | exact wanted_some rfl rfl)) (by intro W _; first | (go_simp; rfl) | (go_simp; done) | (trace_state; fail)) ?_
    (simp only [Act.put, List.setIfInBounds_toArray, List.set_cons_succ, List.set_cons_zero])
    refine wpY_c (by rfl) (by (first | exact wanted_none rfl | exact wanted_some rfl rfl)) (by intro W _; first | (go_simp; rfl) | (go_simp; done) | (trace_state; fail)) ?_
    (simp only [Act.put, List.setIfInBounds_toArray, List.set_cons_succ, List.set_cons_zero])
    refine wpY_load1 (by rfl) (by rfl) (by (first | exact wanted_none rfl | exact wanted_some rfl rfl)) (by first | exact kPrl | exact kSll | exact kArl | exact kStr | exact kInt) (by rfl) (by (repeat (first | exact List.Mem.head _ | refine List.Mem.tail _ ?_ | assumption))) (by rfl) ?_
    (simp only [Act.put, List.setIfInBounds_toArray, List.set_cons_succ, List.set_cons_zero])
    refine wpY_c (by rfl) (by (first | exact wanted_none rfl | exact wanted_some rfl rfl)) (by intro W _; first | (go_simp; rfl) | (go_simp; done) | (trace_state; fail)) ?_
    (simp only [Act.put, List.setIfInBounds_toArray, List.set_cons_succ, List.set_cons_zero])
    refine wpY_y (by rfl) (by (first | exact wanted_none rfl | exact wanted_some rfl rfl)) (fun G F W HF hG => ?_)
    go_simp
    unfold upY
    refine Calls.mono (nextH_any (m' := ((q6, 53, [.int .i64 0, .string ⟨#[]⟩, .string ⟨#[]⟩, .bool false, .string ⟨#[]⟩, .string ⟨#[]⟩, .int .i64 0, .slice none 0 0]) :: (q, 31, [.slice (some ⟨ga, 0, none⟩) na ca, .slice none 0 0, .slice (some ⟨gp, 0, none⟩) np cp, .slice (some ⟨gs, 0, none⟩) ns cc, .slice none 0 0, .bool false, .string ⟨#[]⟩, .string ⟨#[]⟩]) :: (b, 73, [S.sn.sn.sn.v]) :: m) ++ F) S.sn.sn b na HF (Lib.hid (HS.out.next.next)) (Lib.hid (by (repeat (first | apply Upd.head | apply Upd.tail | assumption)))) (by omega) (by omega)) ?_
    rintro _ W2 ⟨rfl, h2⟩
    refine ⟨_, rfl, hG _ _ ((q6, 53, [.int .i64 0, .string ⟨#[]⟩, .string ⟨#[]⟩, .bool false, .string ⟨#[]⟩, .string ⟨#[]⟩, .int .i64 0, .slice none 0 0]) :: (q, 31, [.slice (some ⟨ga, 0, none⟩) na ca, .slice none 0 0, .slice (some ⟨gp, 0, none⟩) np cp, .slice (some ⟨gs, 0, none⟩) ns cc, .slice none 0 0, .bool false, .string ⟨#[]⟩, .string ⟨#[]⟩]) :: (b, 73, [S.sn.sn.sn.v]) :: m) h2 (by (repeat (first | exact List.Sublist.refl _ | refine List.Sublist.cons_cons _ ?_ | refine List.Sublist.trans ?_ (List.sublist_append_right _ _) | refine List.Sublist.cons _ ?_))) ?_⟩
    clear HF hG h2
    rw [HXA.out]
    (simp only [Act.put, List.setIfInBounds_toArray, List.set_cons_succ, List.set_cons_zero])
    refine wpY_c (by rfl) (by (first | exact wanted_none rfl | exact wanted_some rfl rfl)) (by intro W _; first | (go_simp; rfl) | (go_simp; done) | (trace_state; fail)) ?_
    (simp only [Act.put, List.setIfInBounds_toArray, List.set_cons_succ, List.set_cons_zero])
    refine wpY_c (by rfl) (by (first | exact wanted_none rfl | exact wanted_some rfl rfl)) (by intro W _; first | (go_simp; rfl) | (go_simp; done) | (trace_state; fail)) ?_
    (simp only [Act.put, List.setIfInBounds_toArray, List.set_cons_succ, List.set_cons_zero])
    refine wpY_loadX (by rfl) (by rfl) (by (first | exact wanted_none rfl | exact wanted_some rfl rfl)) kStr (by rfl) (by intro W HW; exact HRA.out _ (HW.out.hld (fun x hx => by have := HE.out x hx; simp only [List.mem_cons]; grind))) ?_
    (simp only [Act.put, List.setIfInBounds_toArray, List.set_cons_succ, List.set_cons_zero])
    refine wpY_c (by rfl) (by (first | exact wanted_none rfl | exact wanted_some rfl rfl)) (by intro W _; first | (go_simp; rfl) | (go_simp; done) | (trace_state; fail)) ?_
    (simp only [Act.put, List.setIfInBounds_toArray, List.set_cons_succ, List.set_cons_zero])
    refine wpY_nil ?_
    clear H
    intro _ H
    go_wp2_with (first
        | go_skip
        | ((with_reducible refine isAlloc ?_); refine alA H ?_ (hz := zStm8); clear H; intro q9 _ H)
        | ((with_reducible refine isStore ?_); refine stA H ?_ (hT := by first | exact rStm8 | exact rRat); clear H; intro _ H)
        | ((with_reducible refine isLoad ?_); refine ldA H ?_ (hT := by first | exact rStm8 | exact rWks)))
    exact bodyPost_ret (results_H H Tryd.results39 (by exact rStm8) rfl (by (repeat (first | exact List.Mem.head _ | refine List.Mem.tail _ ?_ | assumption))) (by rfl)) rfl ⟨⟨2, nmP, nmA, none, 0, .slice none 0 0⟩, .mk 2 nmP nmA none 0 [], S.sn.sn.sn, [], rfl, (Lib.hid (HS.out.next.next.next)).out, H.out.sub (by (repeat (first | exact List.Sublist.refl _ | refine List.Sublist.cons_cons _ ?_ | refine List.Sublist.trans ?_ (List.sublist_append_right _ _) | refine List.Sublist.cons _ ?_))), RSt.leaf _ ⟨small_i (x := 2) (by omega), small_i (x := 0) (by omega), pn_sz HNP.out, an_sz HNA.out, SmO.none⟩, .inr (.inl ⟨rfl, HNP.out, HNA.out, rfl, rfl, rfl⟩)⟩
  · go_wp2_with (first
        | go_skip
        | ((with_reducible refine isAlloc ?_); refine alA H ?_ (hz := zStm8); clear H; intro q9 _ H)
        | ((with_reducible refine isStore ?_); refine stA H ?_ (hT := by first | exact rStm8 | exact rRat); clear H; intro _ H)
        | ((with_reducible refine isLoad ?_); refine ldA H ?_ (hT := by first | exact rStm8 | exact rWks)))
    exact bodyPost_ret (results_H H Tryd.results39 (by exact rStm8) rfl (by (repeat (first | exact List.Mem.head _ | refine List.Mem.tail _ ?_ | assumption))) (by rfl)) rfl ⟨⟨4, nmP, ⟨#[]⟩, none, 0, .slice none 0 0⟩, .mk 4 nmP ⟨#[]⟩ none 0 [], S.sn.sn, [], rfl, (Lib.hid (HS.out.next.next)).out, H.out.sub (by (repeat (first | exact List.Sublist.refl _ | refine List.Sublist.cons_cons _ ?_ | refine List.Sublist.trans ?_ (List.sublist_append_right _ _) | refine List.Sublist.cons _ ?_))), RSt.leaf _ ⟨small_i (x := 4) (by omega), small_i (x := 0) (by omega), pn_sz HNP.out, empty_sz, SmO.none⟩, .inr (.inr (.inr (.inl ⟨rfl, HNP.out, rfl, rfl, rfl, rfl⟩)))⟩
  · obtain ⟨x2, hx2⟩ : ∃ r, S.sn.sn.nx 2 = r := ⟨_, rfl⟩
    have hbx2 := S.sn.sn.nx_bd 2 (by omega)
    rw [hx2] at hbx2
    obtain ⟨hbx20, hbx21⟩ := hbx2
    have HVx2 := Lib.hid hx2
    clear hx2
    go_wp2_with (first
        | go_skip
        | ((with_reducible refine isAlloc ?_); refine alA H ?_ (hz := zStm8); clear H; intro q9 _ H)
        | ((with_reducible refine isStore ?_); refine stA H ?_ (hT := by first | exact rStm8 | exact rRat); clear H; intro _ H)
        | ((with_reducible refine isLoad ?_); refine ldA H ?_ (hT := by first | exact rStm8 | exact rWks)))
    go_at_call 19
    refine Calls.mono (nextH_any S.sn.sn b 2 H (Lib.hid (HS.out.next.next)) (Lib.hid (by (repeat (first | apply Upd.head | apply Upd.tail | assumption)))) (by omega) (by omega)) ?_
    rintro _ _ ⟨rfl, h2⟩
    replace H := Lib.hid h2
    clear h2
    rw [HVx2.out]
    by_cases h2 : x2 = 0
    · subst h2
      go_wp2_with (first
          | go_skip
          | ((with_reducible refine isAlloc ?_); refine alA H ?_ (hz := zStm8); clear H; intro q9 _ H)
          | ((with_reducible refine isStore ?_); refine stA H ?_ (hT := by first | exact rStm8 | exact rRat); clear H; intro _ H)
          | ((with_reducible refine isLoad ?_); refine ldA H ?_ (hT := by first | exact rStm8 | exact rWks)))
      obtain ⟨r3, hr3⟩ : ∃ r, S.sn.sn.sn.nx 3 = r := ⟨_, rfl⟩
      have hbr3 := S.sn.sn.sn.nx_bd 3 (by omega)
      rw [hr3] at hbr3
      obtain ⟨hbr30, hbr31⟩ := hbr3
      have HVr3 := Lib.hid hr3
      clear hr3
      go_at_call 19
      refine Calls.mono (nextH_any S.sn.sn.sn b 3 H (Lib.hid (HS.out.next.next.next)) (Lib.hid (by (repeat (first | apply Upd.head | apply Upd.tail | assumption)))) (by omega) (by omega)) ?_
      rintro _ _ ⟨rfl, h2⟩
      replace H := Lib.hid h2
      clear h2
      rw [HVr3.out]
      go_wp2_with (first
          | go_skip
          | ((with_reducible refine isAlloc ?_); refine alA H ?_ (hz := zStm8); clear H; intro q9 _ H)
          | ((with_reducible refine isStore ?_); refine stA H ?_ (hT := by first | exact rStm8 | exact rRat); clear H; intro _ H)
          | ((with_reducible refine isLoad ?_); refine ldA H ?_ (hT := by first | exact rStm8 | exact rWks)))
      exact bodyPost_ret (results_H H Tryd.results39 (by exact rStm8) rfl (by (repeat (first | exact List.Mem.head _ | refine List.Mem.tail _ ?_ | assumption))) (by rfl)) rfl ⟨⟨5, ⟨#[]⟩, ⟨#[]⟩, none, (1 + r3), .slice none 0 0⟩, .mk 5 ⟨#[]⟩ ⟨#[]⟩ none (1 + r3) [], S.sn.sn.sn.sn, [], rfl, (Lib.hid (HS.out.next.next.next.next)).out, H.out.sub (by (repeat (first | exact List.Sublist.refl _ | refine List.Sublist.cons_cons _ ?_ | refine List.Sublist.trans ?_ (List.sublist_append_right _ _) | refine List.Sublist.cons _ ?_))), RSt.leaf _ ⟨small_i (x := 5) (by omega), small_i (x := (1 + r3)) (by omega), empty_sz, empty_sz, SmO.none⟩, .inr (.inr (.inr (.inr (.inl ⟨rfl, rfl, rfl, rfl, ⟨by show 1 ≤ 1 + r3; omega, by show 1 + r3 ≤ 3; omega⟩, rfl⟩))))⟩
    · have x20p : ¬ (x2 = 0) := h2
      have x20d : decide (x2 = 0) = false := decide_eq_false x20p
      obtain ⟨iA, hxA⟩ : ∃ i : Nat, S.sn.sn.sn.nx na = i := ⟨(S.sn.sn.sn.nx na).toNat, by have := S.sn.sn.sn.nx_bd na (by omega); omega⟩
      have hiA : iA < na := by have := S.sn.sn.sn.nx_bd na (by omega); omega
      have HXA := Lib.hid hxA
      obtain ⟨nmA, hnmA⟩ : ∃ x, (armN.take na)[iA]? = some x := ⟨_, List.getElem?_eq_getElem (by rw [LA.out]; exact hiA)⟩
      obtain ⟨gA, cA, egA, hrA⟩ := RA.out.at_ armC_len hnmA (by decide)
      injection egA with egA _ ecA
      injection egA with egA
      injection egA with egA
      subst egA
      have HRA : Hid (∀ W, Hld E0 W → W.cell? ⟨ga, iA * 12, none⟩ = some (.string nmA)) := Lib.hid fun W hW => rangeAt_cell (hrA W hW)
      have HNA : Hid (nmA ∈ armN.take na) := Lib.hid (by exact List.mem_of_getElem? hnmA)
      clear hrA hnmA hxA ecA
      go_wp2_with (first
          | go_skip
          | ((with_reducible refine isAlloc ?_); refine alA H ?_ (hz := zStm8); clear H; intro q9 _ H)
          | ((with_reducible refine isStore ?_); refine stA H ?_ (hT := by first | exact rStm8 | exact rRat); clear H; intro _ H)
          | ((with_reducible refine isLoad ?_); refine ldA H ?_ (hT := by first | exact rStm8 | exact rWks)))
      refine wp_region_Y 11 [.c (.pointer (some ⟨q, 0, none⟩)), .c (.slice (some ⟨ga, 0, none⟩) na ca), .c (.pointer (some ⟨b, 0, none⟩)), .c (.pointer (some ⟨q, 0, none⟩)), .c (.slice (some ⟨ga, 0, none⟩) na ca), .c (.int .i64 na), .y, .c (.pointer (some ⟨ga, iA * 12, none⟩)), .c (.pointer (some ⟨ga, iA * 12, none⟩)), .c (.string nmA), .c (.agg #[.int .i64 3, .string nmA, .string ⟨#[]⟩, .bool false, .string ⟨#[]⟩, .string ⟨#[]⟩, .int .i64 0, .slice none 0 0])] ((q6, 53, [.int .i64 0, .string ⟨#[]⟩, .string ⟨#[]⟩, .bool false, .string ⟨#[]⟩, .string ⟨#[]⟩, .int .i64 0, .slice none 0 0]) :: (q, 31, [.slice (some ⟨ga, 0, none⟩) na ca, .slice none 0 0, .slice (some ⟨gp, 0, none⟩) np cp, .slice (some ⟨gs, 0, none⟩) ns cc, .slice none 0 0, .bool false, .string ⟨#[]⟩, .string ⟨#[]⟩]) :: m) H (by (repeat (first | exact List.Sublist.refl _ | refine List.Sublist.cons_cons _ ?_ | refine List.Sublist.trans ?_ (List.sublist_append_right _ _) | refine List.Sublist.cons _ ?_))) (by kernel_rfl) (by kernel_rfl) (by kernel_rfl) ?_
      simp only [List.take_succ_cons, List.take_zero, List.drop_succ_cons, List.drop_zero]
      refine wpY_c (by rfl) (by (first | exact wanted_none rfl | exact wanted_some rfl rfl)) (by intro W _; first | (go_simp; rfl) | (go_simp; done) | (trace_state; fail)) ?_
      (simp only [Act.put, List.setIfInBounds_toArray, List.set_cons_succ, List.set_cons_zero])
      refine wpY_load1 (by rfl) (by rfl) (by (first | exact wanted_none rfl | exact wanted_some rfl rfl)) (by first | exact kPrl | exact kSll | exact kArl | exact kStr | exact kInt) (by rfl) (by (repeat (first | exact List.Mem.head _ | refine List.Mem.tail _ ?_ | assumption))) (by rfl) ?_
      (simp only [Act.put, List.setIfInBounds_toArray, List.set_cons_succ, List.set_cons_zero])
      refine wpY_c (by rfl) (by (first | exact wanted_none rfl | exact wanted_some rfl rfl)) (by intro W _; first | (go_simp; rfl) | (go_simp; done) | (trace_state; fail)) ?_
      (simp only [Act.put, List.setIfInBounds_toArray, List.set_cons_succ, List.set_cons_zero])
      refine wpY_c (by rfl) (by (first | exact wanted_none rfl | exact wanted_some rfl rfl)) (by intro W _; first | (go_simp; rfl) | (go_simp; done) | (trace_state; fail)) ?_
      (simp only [Act.put, List.setIfInBounds_toArray, List.set_cons_succ, List.set_cons_zero])
      refine wpY_load1 (by rfl) (by rfl) (by (first | exact wanted_none rfl | exact wanted_some rfl rfl)) (by first | exact kPrl | exact kSll | exact kArl | exact kStr | exact kInt) (by rfl) (by (repeat (first | exact List.Mem.head _ | refine List.Mem.tail _ ?_ | assumption))) (by rfl) ?_
      (simp only [Act.put, List.setIfInBounds_toArray, List.set_cons_succ, List.set_cons_zero])
      refine wpY_c (by rfl) (by (first | exact wanted_none rfl | exact wanted_some rfl rfl)) (by intro W _; first | (go_simp; rfl) | (go_simp; done) | (trace_state; fail)) ?_
      (simp only [Act.put, List.setIfInBounds_toArray, List.set_cons_succ, List.set_cons_zero])
      refine wpY_y (by rfl) (by (first | exact wanted_none rfl | exact wanted_some rfl rfl)) (fun G F W HF hG => ?_)
      go_simp
      unfold upY
      refine Calls.mono (nextH_any (m' := ((q6, 53, [.int .i64 0, .string ⟨#[]⟩, .string ⟨#[]⟩, .bool false, .string ⟨#[]⟩, .string ⟨#[]⟩, .int .i64 0, .slice none 0 0]) :: (q, 31, [.slice (some ⟨ga, 0, none⟩) na ca, .slice none 0 0, .slice (some ⟨gp, 0, none⟩) np cp, .slice (some ⟨gs, 0, none⟩) ns cc, .slice none 0 0, .bool false, .string ⟨#[]⟩, .string ⟨#[]⟩]) :: (b, 73, [S.sn.sn.sn.sn.v]) :: m) ++ F) S.sn.sn.sn b na HF (Lib.hid (HS.out.next.next.next)) (Lib.hid (by (repeat (first | apply Upd.head | apply Upd.tail | assumption)))) (by omega) (by omega)) ?_
      rintro _ W2 ⟨rfl, h2⟩
      refine ⟨_, rfl, hG _ _ ((q6, 53, [.int .i64 0, .string ⟨#[]⟩, .string ⟨#[]⟩, .bool false, .string ⟨#[]⟩, .string ⟨#[]⟩, .int .i64 0, .slice none 0 0]) :: (q, 31, [.slice (some ⟨ga, 0, none⟩) na ca, .slice none 0 0, .slice (some ⟨gp, 0, none⟩) np cp, .slice (some ⟨gs, 0, none⟩) ns cc, .slice none 0 0, .bool false, .string ⟨#[]⟩, .string ⟨#[]⟩]) :: (b, 73, [S.sn.sn.sn.sn.v]) :: m) h2 (by (repeat (first | exact List.Sublist.refl _ | refine List.Sublist.cons_cons _ ?_ | refine List.Sublist.trans ?_ (List.sublist_append_right _ _) | refine List.Sublist.cons _ ?_))) ?_⟩
      clear HF hG h2
      rw [HXA.out]
      (simp only [Act.put, List.setIfInBounds_toArray, List.set_cons_succ, List.set_cons_zero])
      refine wpY_c (by rfl) (by (first | exact wanted_none rfl | exact wanted_some rfl rfl)) (by intro W _; first | (go_simp; rfl) | (go_simp; done) | (trace_state; fail)) ?_
      (simp only [Act.put, List.setIfInBounds_toArray, List.set_cons_succ, List.set_cons_zero])
      refine wpY_c (by rfl) (by (first | exact wanted_none rfl | exact wanted_some rfl rfl)) (by intro W _; first | (go_simp; rfl) | (go_simp; done) | (trace_state; fail)) ?_
      (simp only [Act.put, List.setIfInBounds_toArray, List.set_cons_succ, List.set_cons_zero])
      refine wpY_loadX (by rfl) (by rfl) (by (first | exact wanted_none rfl | exact wanted_some rfl rfl)) kStr (by rfl) (by intro W HW; exact HRA.out _ (HW.out.hld (fun x hx => by have := HE.out x hx; simp only [List.mem_cons]; grind))) ?_
      (simp only [Act.put, List.setIfInBounds_toArray, List.set_cons_succ, List.set_cons_zero])
      refine wpY_c (by rfl) (by (first | exact wanted_none rfl | exact wanted_some rfl rfl)) (by intro W _; first | (go_simp; rfl) | (go_simp; done) | (trace_state; fail)) ?_
      (simp only [Act.put, List.setIfInBounds_toArray, List.set_cons_succ, List.set_cons_zero])
      refine wpY_nil ?_
      clear H
      intro _ H
      go_wp2_with (first
          | go_skip
          | ((with_reducible refine isAlloc ?_); refine alA H ?_ (hz := zStm8); clear H; intro q9 _ H)
          | ((with_reducible refine isStore ?_); refine stA H ?_ (hT := by first | exact rStm8 | exact rRat); clear H; intro _ H)
          | ((with_reducible refine isLoad ?_); refine ldA H ?_ (hT := by first | exact rStm8 | exact rWks)))
      exact bodyPost_ret (results_H H Tryd.results39 (by exact rStm8) rfl (by (repeat (first | exact List.Mem.head _ | refine List.Mem.tail _ ?_ | assumption))) (by rfl)) rfl ⟨⟨3, nmA, ⟨#[]⟩, none, 0, .slice none 0 0⟩, .mk 3 nmA ⟨#[]⟩ none 0 [], S.sn.sn.sn.sn, [], rfl, (Lib.hid (HS.out.next.next.next.next)).out, H.out.sub (by (repeat (first | exact List.Sublist.refl _ | refine List.Sublist.cons_cons _ ?_ | refine List.Sublist.trans ?_ (List.sublist_append_right _ _) | refine List.Sublist.cons _ ?_))), RSt.leaf _ ⟨small_i (x := 3) (by omega), small_i (x := 0) (by omega), an_sz HNA.out, empty_sz, SmO.none⟩, .inr (.inr (.inl ⟨rfl, HNA.out, rfl, rfl, rfl, rfl⟩))⟩
  · go_wp2_with (first
        | go_skip
        | ((with_reducible refine isAlloc ?_); refine alA H ?_ (hz := zStm8); clear H; intro q9 _ H)
        | ((with_reducible refine isStore ?_); refine stA H ?_ (hT := by first | exact rStm8 | exact rRat) (hu := by (repeat (first | apply Upd.head | apply Upd.tail | apply Upd.app | assumption))); clear H; intro _ H)
        | ((with_reducible refine isLoad ?_); refine ldA H ?_ (hT := by first | exact rStm8 | exact rWks)))
    replace H := Lib.hid (H.out.perm (List.perm_middle (l₁ := [_, _])))
    simp only [List.cons_append, List.nil_append] at H
    refine wp_region_Y 12 [.c (.agg #[.slice (some ⟨ga, 0, none⟩) na ca, .slice none 0 0, .slice (some ⟨gp, 0, none⟩) np cp, .slice (some ⟨gs, 0, none⟩) ns cc, .slice none 0 0, .bool false, .string ⟨#[]⟩, .string ⟨#[]⟩]), .c (.pointer (some ⟨b, 0, none⟩)), .c (.int .i64 p), .c (.int .i64 ((p : Int) + 1)), .y, .c (.agg #[.slice (some ⟨ga, 0, none⟩) na ca, .slice none 0 0, .slice (some ⟨gp, 0, none⟩) np cp, .slice (some ⟨gs, 0, none⟩) ns cc, .slice none 0 0, .bool false, .string ⟨#[]⟩, .string ⟨#[]⟩]), .c (.pointer (some ⟨b, 0, none⟩)), .c (.int .i64 p), .c (.int .i64 ((p : Int) + 1)), .y, .a, .y] ((q6, 53, [.int .i64 0, .string ⟨#[]⟩, .string ⟨#[]⟩, .bool false, .string ⟨#[]⟩, .string ⟨#[]⟩, .int .i64 0, .slice none 0 0]) :: (q, 31, [.slice (some ⟨ga, 0, none⟩) na ca, .slice none 0 0, .slice (some ⟨gp, 0, none⟩) np cp, .slice (some ⟨gs, 0, none⟩) ns cc, .slice none 0 0, .bool false, .string ⟨#[]⟩, .string ⟨#[]⟩]) :: m) H (by (repeat (first | exact List.Sublist.refl _ | refine List.Sublist.cons_cons _ ?_ | refine List.Sublist.trans ?_ (List.sublist_append_right _ _) | refine List.Sublist.cons _ ?_))) (by kernel_rfl) (by kernel_rfl) (by kernel_rfl) ?_
    simp only [List.take_succ_cons, List.take_zero, List.drop_succ_cons, List.drop_zero]
    refine wpY_load (by rfl) (by rfl) (by (first | exact wanted_none rfl | exact wanted_some rfl rfl)) rWks (by rfl) (by (repeat (first | exact List.Mem.head _ | refine List.Mem.tail _ ?_ | assumption))) (by first | rfl | ((simp only [List.drop, List.take]); rfl)) (by rfl) ?_
    (simp only [Act.put, List.setIfInBounds_toArray, List.set_cons_succ, List.set_cons_zero])
    refine wpY_c (by rfl) (by (first | exact wanted_none rfl | exact wanted_some rfl rfl)) (by intro W _; first | (go_simp; rfl) | (go_simp; done) | (trace_state; fail)) ?_
    (simp only [Act.put, List.setIfInBounds_toArray, List.set_cons_succ, List.set_cons_zero])
    refine wpY_c (by rfl) (by (first | exact wanted_none rfl | exact wanted_some rfl rfl)) (by intro W _; first | (go_simp; rfl) | (go_simp; done) | (trace_state; fail)) ?_
    (simp only [Act.put, List.setIfInBounds_toArray, List.set_cons_succ, List.set_cons_zero])
    refine wpY_c (by rfl) (by (first | exact wanted_none rfl | exact wanted_some rfl rfl)) (by intro W _; first | (go_simp; rfl) | (go_simp; done) | (trace_state; fail)) ?_
    (simp only [Act.put, List.setIfInBounds_toArray, List.set_cons_succ, List.set_cons_zero])
    refine wpY_y (by rfl) (by (first | exact wanted_none rfl | exact wanted_some rfl rfl)) (fun G F W HF hG => ?_)
    go_simp
    unfold upY
    refine Calls.mono (HC.out w0 W (((q6, 53, [.int .i64 0, .string ⟨#[]⟩, .string ⟨#[]⟩, .bool false, .string ⟨#[]⟩, .string ⟨#[]⟩, .int .i64 0, .slice none 0 0]) :: (q, 31, [.slice (some ⟨ga, 0, none⟩) na ca, .slice none 0 0, .slice (some ⟨gp, 0, none⟩) np cp, .slice (some ⟨gs, 0, none⟩) ns cc, .slice none 0 0, .bool false, .string ⟨#[]⟩, .string ⟨#[]⟩]) :: m) ++ F) E0 b S.sn.sn _ HF (Lib.hid (HS.out.next.next)) WV (Lib.hid (fun x hx => by have := HE.out x hx; simp [this]))) ?_
    rintro _ W2 ⟨x1, l1, S1, E1, rfl, hS1, h2, hR1, hV1⟩
    obtain ⟨B1, c1, rfl⟩ := hR1.shape
    refine ⟨_, rfl, hG _ _ ((b, 73, [S1.v]) :: (E1 ++ ((q6, 53, [.int .i64 0, .string ⟨#[]⟩, .string ⟨#[]⟩, .bool false, .string ⟨#[]⟩, .string ⟨#[]⟩, .int .i64 0, .slice none 0 0]) :: (q, 31, [.slice (some ⟨ga, 0, none⟩) na ca, .slice none 0 0, .slice (some ⟨gp, 0, none⟩) np cp, .slice (some ⟨gs, 0, none⟩) ns cc, .slice none 0 0, .bool false, .string ⟨#[]⟩, .string ⟨#[]⟩]) :: m))) (by simpa only [List.cons_append, List.append_assoc] using h2) (by (repeat (first | exact List.Sublist.refl _ | refine List.Sublist.cons_cons _ ?_ | refine List.Sublist.trans ?_ (List.sublist_append_right _ _) | refine List.Sublist.cons _ ?_))) ?_⟩
    have HS1 := Lib.hid hS1
    have HR1 := Lib.hid hR1
    have HV1 := Lib.hid hV1
    clear HF hG h2 hS1 hR1 hV1
    (simp only [Act.put, List.setIfInBounds_toArray, List.set_cons_succ, List.set_cons_zero])
    refine wpY_load (by rfl) (by rfl) (by (first | exact wanted_none rfl | exact wanted_some rfl rfl)) rWks (by rfl) (by (repeat (first | exact List.Mem.head _ | refine List.Mem.tail _ ?_ | assumption))) (by first | rfl | ((simp only [List.drop, List.take]); rfl)) (by rfl) ?_
    (simp only [Act.put, List.setIfInBounds_toArray, List.set_cons_succ, List.set_cons_zero])
    refine wpY_c (by rfl) (by (first | exact wanted_none rfl | exact wanted_some rfl rfl)) (by intro W _; first | (go_simp; rfl) | (go_simp; done) | (trace_state; fail)) ?_
    (simp only [Act.put, List.setIfInBounds_toArray, List.set_cons_succ, List.set_cons_zero])
    refine wpY_c (by rfl) (by (first | exact wanted_none rfl | exact wanted_some rfl rfl)) (by intro W _; first | (go_simp; rfl) | (go_simp; done) | (trace_state; fail)) ?_
    (simp only [Act.put, List.setIfInBounds_toArray, List.set_cons_succ, List.set_cons_zero])
    refine wpY_c (by rfl) (by (first | exact wanted_none rfl | exact wanted_some rfl rfl)) (by intro W _; first | (go_simp; rfl) | (go_simp; done) | (trace_state; fail)) ?_
    (simp only [Act.put, List.setIfInBounds_toArray, List.set_cons_succ, List.set_cons_zero])
    refine wpY_y (by rfl) (by (first | exact wanted_none rfl | exact wanted_some rfl rfl)) (fun G F W HF hG => ?_)
    go_simp
    unfold upY
    refine Calls.mono (HC.out w0 W ((E1 ++ ((q6, 53, [.int .i64 0, .string ⟨#[]⟩, .string ⟨#[]⟩, .bool false, .string ⟨#[]⟩, .string ⟨#[]⟩, .int .i64 0, .slice none 0 0]) :: (q, 31, [.slice (some ⟨ga, 0, none⟩) na ca, .slice none 0 0, .slice (some ⟨gp, 0, none⟩) np cp, .slice (some ⟨gs, 0, none⟩) ns cc, .slice none 0 0, .bool false, .string ⟨#[]⟩, .string ⟨#[]⟩]) :: m)) ++ F) E0 b S1 _ HF HS1 WV (Lib.hid (fun x hx => by have := HE.out x hx; simp [this]))) ?_
    rintro _ W2 ⟨x2, l2, S2, E2, rfl, hS2, h2, hR2, hV2⟩
    obtain ⟨B2, c2, rfl⟩ := hR2.shape
    refine ⟨_, rfl, hG _ _ ((b, 73, [S2.v]) :: (E2 ++ (E1 ++ ((q6, 53, [.int .i64 0, .string ⟨#[]⟩, .string ⟨#[]⟩, .bool false, .string ⟨#[]⟩, .string ⟨#[]⟩, .int .i64 0, .slice none 0 0]) :: (q, 31, [.slice (some ⟨ga, 0, none⟩) na ca, .slice none 0 0, .slice (some ⟨gp, 0, none⟩) np cp, .slice (some ⟨gs, 0, none⟩) ns cc, .slice none 0 0, .bool false, .string ⟨#[]⟩, .string ⟨#[]⟩]) :: m)))) (by simpa only [List.cons_append, List.append_assoc] using h2) (by (repeat (first | exact List.Sublist.refl _ | refine List.Sublist.cons_cons _ ?_ | refine List.Sublist.trans ?_ (List.sublist_append_right _ _) | refine List.Sublist.cons _ ?_))) ?_⟩
    have HS2 := Lib.hid hS2
    have HR2 := Lib.hid hR2
    have HV2 := Lib.hid hV2
    clear HF hG h2 hS2 hR2 hV2
    (simp only [Act.put, List.setIfInBounds_toArray, List.set_cons_succ, List.set_cons_zero])
    refine wpY_V 56 ([.slice B1 l1.length c1, .slice B2 l2.length c2]) 2 (by rfl) (by rfl) (by intro W; kernel_rfl) ?_
    intro gz
    (simp only [Act.put, List.setIfInBounds_toArray, List.set_cons_succ, List.set_cons_zero])
    refine wpY_p (by rfl) (by (repeat (first | exact List.Sublist.refl _ | refine List.Sublist.cons_cons _ ?_ | refine List.Sublist.trans ?_ (List.sublist_append_right _ _) | refine List.Sublist.cons _ ?_))) (by (first | exact wanted_none rfl | exact wanted_some rfl rfl)) (by intro W; first | (go_simp; rfl) | go_simp) ?_
    (simp only [Act.put, List.setIfInBounds_toArray, List.set_cons_succ, List.set_cons_zero])
    refine wpY_nil ?_
    clear H
    intro _ H
    go_wp2_with (first
        | go_skip
        | ((with_reducible refine isAlloc ?_); refine alA H ?_ (hz := zStm8); clear H; intro q9 _ H)
        | ((with_reducible refine isStore ?_); refine stA H ?_ (hT := by first | exact rStm8 | exact rRat) (hu := by (repeat (first | apply Upd.head | apply Upd.tail | apply Upd.app | assumption))); clear H; intro _ H)
        | ((with_reducible refine isLoad ?_); refine ldA H ?_ (hT := by first | exact rStm8 | exact rWks)))
    exact bodyPost_ret (results_H H Tryd.results39 (by exact rStm8) rfl (by (repeat (first | exact List.Mem.head _ | refine List.Mem.tail _ ?_ | refine List.mem_append_right _ ?_ | assumption))) (by rfl)) rfl ⟨⟨8, ⟨#[]⟩, ⟨#[]⟩, none, 0, .slice (some ⟨gz, 0, none⟩) 2 2⟩, .mk 8 ⟨#[]⟩ ⟨#[]⟩ none 0 [l1, l2], S2, (gz, 56, [.slice B1 l1.length c1, .slice B2 l2.length c2]) :: (E2 ++ E1), rfl, HS2.out, fin2 H.out (by (repeat (first | exact List.Sublist.refl _ | refine List.Sublist.cons_cons _ ?_ | refine List.Sublist.trans ?_ (List.sublist_append_right _ _) | refine List.Sublist.cons _ ?_))), RSt.two (.head _) (HR1.out.mono (fun x hx => .tail _ (List.mem_append_right _ hx))) (HR2.out.mono (fun x hx => .tail _ (List.mem_append_left _ hx))) (by omega) (by omega),
      .inr (.inr (.inr (.inr (.inr ⟨rfl, rfl, rfl, two_mem HV1.out HV2.out, .inr (.inr (.inl ⟨rfl, rfl, rfl⟩))⟩))))⟩
  · go_wp2_with (first
        | go_skip
        | ((with_reducible refine isAlloc ?_); refine alA H ?_ (hz := zStm8); clear H; intro q9 _ H)
        | ((with_reducible refine isStore ?_); refine stA H ?_ (hT := by first | exact rStm8 | exact rRat) (hu := by (repeat (first | apply Upd.head | apply Upd.tail | apply Upd.app | assumption))); clear H; intro _ H)
        | ((with_reducible refine isLoad ?_); refine ldA H ?_ (hT := by first | exact rStm8 | exact rWks)))
    replace H := Lib.hid (H.out.perm (List.perm_middle (l₁ := [_, _])))
    simp only [List.cons_append, List.nil_append] at H
    refine wp_region_Y 12 [.c (.agg #[.slice (some ⟨ga, 0, none⟩) na ca, .slice none 0 0, .slice (some ⟨gp, 0, none⟩) np cp, .slice (some ⟨gs, 0, none⟩) ns cc, .slice none 0 0, .bool false, .string ⟨#[]⟩, .string ⟨#[]⟩]), .c (.pointer (some ⟨b, 0, none⟩)), .c (.int .i64 p), .c (.int .i64 ((p : Int) + 1)), .y, .c (.agg #[.slice (some ⟨ga, 0, none⟩) na ca, .slice none 0 0, .slice (some ⟨gp, 0, none⟩) np cp, .slice (some ⟨gs, 0, none⟩) ns cc, .slice none 0 0, .bool false, .string ⟨#[]⟩, .string ⟨#[]⟩]), .c (.pointer (some ⟨b, 0, none⟩)), .c (.int .i64 p), .c (.int .i64 ((p : Int) + 1)), .y, .a, .y] ((q6, 53, [.int .i64 0, .string ⟨#[]⟩, .string ⟨#[]⟩, .bool false, .string ⟨#[]⟩, .string ⟨#[]⟩, .int .i64 0, .slice none 0 0]) :: (q, 31, [.slice (some ⟨ga, 0, none⟩) na ca, .slice none 0 0, .slice (some ⟨gp, 0, none⟩) np cp, .slice (some ⟨gs, 0, none⟩) ns cc, .slice none 0 0, .bool false, .string ⟨#[]⟩, .string ⟨#[]⟩]) :: m) H (by (repeat (first | exact List.Sublist.refl _ | refine List.Sublist.cons_cons _ ?_ | refine List.Sublist.trans ?_ (List.sublist_append_right _ _) | refine List.Sublist.cons _ ?_))) (by kernel_rfl) (by kernel_rfl) (by kernel_rfl) ?_
    simp only [List.take_succ_cons, List.take_zero, List.drop_succ_cons, List.drop_zero]
    refine wpY_load (by rfl) (by rfl) (by (first | exact wanted_none rfl | exact wanted_some rfl rfl)) rWks (by rfl) (by (repeat (first | exact List.Mem.head _ | refine List.Mem.tail _ ?_ | assumption))) (by first | rfl | ((simp only [List.drop, List.take]); rfl)) (by rfl) ?_
    (simp only [Act.put, List.setIfInBounds_toArray, List.set_cons_succ, List.set_cons_zero])
    refine wpY_c (by rfl) (by (first | exact wanted_none rfl | exact wanted_some rfl rfl)) (by intro W _; first | (go_simp; rfl) | (go_simp; done) | (trace_state; fail)) ?_
    (simp only [Act.put, List.setIfInBounds_toArray, List.set_cons_succ, List.set_cons_zero])
    refine wpY_c (by rfl) (by (first | exact wanted_none rfl | exact wanted_some rfl rfl)) (by intro W _; first | (go_simp; rfl) | (go_simp; done) | (trace_state; fail)) ?_
    (simp only [Act.put, List.setIfInBounds_toArray, List.set_cons_succ, List.set_cons_zero])
    refine wpY_c (by rfl) (by (first | exact wanted_none rfl | exact wanted_some rfl rfl)) (by intro W _; first | (go_simp; rfl) | (go_simp; done) | (trace_state; fail)) ?_
    (simp only [Act.put, List.setIfInBounds_toArray, List.set_cons_succ, List.set_cons_zero])
    refine wpY_y (by rfl) (by (first | exact wanted_none rfl | exact wanted_some rfl rfl)) (fun G F W HF hG => ?_)
    go_simp
    unfold upY
    refine Calls.mono (HC.out w0 W (((q6, 53, [.int .i64 0, .string ⟨#[]⟩, .string ⟨#[]⟩, .bool false, .string ⟨#[]⟩, .string ⟨#[]⟩, .int .i64 0, .slice none 0 0]) :: (q, 31, [.slice (some ⟨ga, 0, none⟩) na ca, .slice none 0 0, .slice (some ⟨gp, 0, none⟩) np cp, .slice (some ⟨gs, 0, none⟩) ns cc, .slice none 0 0, .bool false, .string ⟨#[]⟩, .string ⟨#[]⟩]) :: m) ++ F) E0 b S.sn.sn _ HF (Lib.hid (HS.out.next.next)) WV (Lib.hid (fun x hx => by have := HE.out x hx; simp [this]))) ?_
    rintro _ W2 ⟨x1, l1, S1, E1, rfl, hS1, h2, hR1, hV1⟩
    obtain ⟨B1, c1, rfl⟩ := hR1.shape
    refine ⟨_, rfl, hG _ _ ((b, 73, [S1.v]) :: (E1 ++ ((q6, 53, [.int .i64 0, .string ⟨#[]⟩, .string ⟨#[]⟩, .bool false, .string ⟨#[]⟩, .string ⟨#[]⟩, .int .i64 0, .slice none 0 0]) :: (q, 31, [.slice (some ⟨ga, 0, none⟩) na ca, .slice none 0 0, .slice (some ⟨gp, 0, none⟩) np cp, .slice (some ⟨gs, 0, none⟩) ns cc, .slice none 0 0, .bool false, .string ⟨#[]⟩, .string ⟨#[]⟩]) :: m))) (by simpa only [List.cons_append, List.append_assoc] using h2) (by (repeat (first | exact List.Sublist.refl _ | refine List.Sublist.cons_cons _ ?_ | refine List.Sublist.trans ?_ (List.sublist_append_right _ _) | refine List.Sublist.cons _ ?_))) ?_⟩
    have HS1 := Lib.hid hS1
    have HR1 := Lib.hid hR1
    have HV1 := Lib.hid hV1
    clear HF hG h2 hS1 hR1 hV1
    (simp only [Act.put, List.setIfInBounds_toArray, List.set_cons_succ, List.set_cons_zero])
    refine wpY_load (by rfl) (by rfl) (by (first | exact wanted_none rfl | exact wanted_some rfl rfl)) rWks (by rfl) (by (repeat (first | exact List.Mem.head _ | refine List.Mem.tail _ ?_ | assumption))) (by first | rfl | ((simp only [List.drop, List.take]); rfl)) (by rfl) ?_
    (simp only [Act.put, List.setIfInBounds_toArray, List.set_cons_succ, List.set_cons_zero])
    refine wpY_c (by rfl) (by (first | exact wanted_none rfl | exact wanted_some rfl rfl)) (by intro W _; first | (go_simp; rfl) | (go_simp; done) | (trace_state; fail)) ?_
    (simp only [Act.put, List.setIfInBounds_toArray, List.set_cons_succ, List.set_cons_zero])
    refine wpY_c (by rfl) (by (first | exact wanted_none rfl | exact wanted_some rfl rfl)) (by intro W _; first | (go_simp; rfl) | (go_simp; done) | (trace_state; fail)) ?_
    (simp only [Act.put, List.setIfInBounds_toArray, List.set_cons_succ, List.set_cons_zero])
    refine wpY_c (by rfl) (by (first | exact wanted_none rfl | exact wanted_some rfl rfl)) (by intro W _; first | (go_simp; rfl) | (go_simp; done) | (trace_state; fail)) ?_
    (simp only [Act.put, List.setIfInBounds_toArray, List.set_cons_succ, List.set_cons_zero])
    refine wpY_y (by rfl) (by (first | exact wanted_none rfl | exact wanted_some rfl rfl)) (fun G F W HF hG => ?_)
    go_simp
    unfold upY
    refine Calls.mono (HC.out w0 W ((E1 ++ ((q6, 53, [.int .i64 0, .string ⟨#[]⟩, .string ⟨#[]⟩, .bool false, .string ⟨#[]⟩, .string ⟨#[]⟩, .int .i64 0, .slice none 0 0]) :: (q, 31, [.slice (some ⟨ga, 0, none⟩) na ca, .slice none 0 0, .slice (some ⟨gp, 0, none⟩) np cp, .slice (some ⟨gs, 0, none⟩) ns cc, .slice none 0 0, .bool false, .string ⟨#[]⟩, .string ⟨#[]⟩]) :: m)) ++ F) E0 b S1 _ HF HS1 WV (Lib.hid (fun x hx => by have := HE.out x hx; simp [this]))) ?_
    rintro _ W2 ⟨x2, l2, S2, E2, rfl, hS2, h2, hR2, hV2⟩
    obtain ⟨B2, c2, rfl⟩ := hR2.shape
    refine ⟨_, rfl, hG _ _ ((b, 73, [S2.v]) :: (E2 ++ (E1 ++ ((q6, 53, [.int .i64 0, .string ⟨#[]⟩, .string ⟨#[]⟩, .bool false, .string ⟨#[]⟩, .string ⟨#[]⟩, .int .i64 0, .slice none 0 0]) :: (q, 31, [.slice (some ⟨ga, 0, none⟩) na ca, .slice none 0 0, .slice (some ⟨gp, 0, none⟩) np cp, .slice (some ⟨gs, 0, none⟩) ns cc, .slice none 0 0, .bool false, .string ⟨#[]⟩, .string ⟨#[]⟩]) :: m)))) (by simpa only [List.cons_append, List.append_assoc] using h2) (by (repeat (first | exact List.Sublist.refl _ | refine List.Sublist.cons_cons _ ?_ | refine List.Sublist.trans ?_ (List.sublist_append_right _ _) | refine List.Sublist.cons _ ?_))) ?_⟩
    have HS2 := Lib.hid hS2
    have HR2 := Lib.hid hR2
    have HV2 := Lib.hid hV2
    clear HF hG h2 hS2 hR2 hV2
    (simp only [Act.put, List.setIfInBounds_toArray, List.set_cons_succ, List.set_cons_zero])
    refine wpY_V 56 ([.slice B1 l1.length c1, .slice B2 l2.length c2]) 2 (by rfl) (by rfl) (by intro W; kernel_rfl) ?_
    intro gz
    (simp only [Act.put, List.setIfInBounds_toArray, List.set_cons_succ, List.set_cons_zero])
    refine wpY_p (by rfl) (by (repeat (first | exact List.Sublist.refl _ | refine List.Sublist.cons_cons _ ?_ | refine List.Sublist.trans ?_ (List.sublist_append_right _ _) | refine List.Sublist.cons _ ?_))) (by (first | exact wanted_none rfl | exact wanted_some rfl rfl)) (by intro W; first | (go_simp; rfl) | go_simp) ?_
    (simp only [Act.put, List.setIfInBounds_toArray, List.set_cons_succ, List.set_cons_zero])
    refine wpY_nil ?_
    clear H
    intro _ H
    go_wp2_with (first
        | go_skip
        | ((with_reducible refine isAlloc ?_); refine alA H ?_ (hz := zStm8); clear H; intro q9 _ H)
        | ((with_reducible refine isStore ?_); refine stA H ?_ (hT := by first | exact rStm8 | exact rRat) (hu := by (repeat (first | apply Upd.head | apply Upd.tail | apply Upd.app | assumption))); clear H; intro _ H)
        | ((with_reducible refine isLoad ?_); refine ldA H ?_ (hT := by first | exact rStm8 | exact rWks)))
    exact bodyPost_ret (results_H H Tryd.results39 (by exact rStm8) rfl (by (repeat (first | exact List.Mem.head _ | refine List.Mem.tail _ ?_ | refine List.mem_append_right _ ?_ | assumption))) (by rfl)) rfl ⟨⟨9, ⟨#[]⟩, ⟨#[]⟩, none, 0, .slice (some ⟨gz, 0, none⟩) 2 2⟩, .mk 9 ⟨#[]⟩ ⟨#[]⟩ none 0 [l1, l2], S2, (gz, 56, [.slice B1 l1.length c1, .slice B2 l2.length c2]) :: (E2 ++ E1), rfl, HS2.out, fin2 H.out (by (repeat (first | exact List.Sublist.refl _ | refine List.Sublist.cons_cons _ ?_ | refine List.Sublist.trans ?_ (List.sublist_append_right _ _) | refine List.Sublist.cons _ ?_))), RSt.two (.head _) (HR1.out.mono (fun x hx => .tail _ (List.mem_append_right _ hx))) (HR2.out.mono (fun x hx => .tail _ (List.mem_append_left _ hx))) (by omega) (by omega),
      .inr (.inr (.inr (.inr (.inr ⟨rfl, rfl, rfl, two_mem HV1.out HV2.out, .inr (.inr (.inr ⟨rfl, rfl, rfl⟩))⟩))))⟩
  · obtain ⟨x2, hx2⟩ : ∃ r, S.sn.sn.nx 2 = r := ⟨_, rfl⟩
    have hbx2 := S.sn.sn.nx_bd 2 (by omega)
    rw [hx2] at hbx2
    obtain ⟨hbx20, hbx21⟩ := hbx2
    have HVx2 := Lib.hid hx2
    clear hx2
    go_wp2_with (first
        | go_skip
        | ((with_reducible refine isAlloc ?_); refine alA H ?_ (hz := zStm8); clear H; intro q9 _ H)
        | ((with_reducible refine isStore ?_); refine stA H ?_ (hT := by first | exact rStm8 | exact rRat) (hu := by (repeat (first | apply Upd.head | apply Upd.tail | apply Upd.app | assumption))); clear H; intro _ H)
        | ((with_reducible refine isLoad ?_); refine ldA H ?_ (hT := by first | exact rStm8 | exact rWks)))
    go_at_call 19
    refine Calls.mono (nextH_any S.sn.sn b 2 H (Lib.hid (HS.out.next.next)) (Lib.hid (by (repeat (first | apply Upd.head | apply Upd.tail | assumption)))) (by omega) (by omega)) ?_
    rintro _ _ ⟨rfl, h2⟩
    replace H := Lib.hid h2
    clear h2
    rw [HVx2.out]
    by_cases h2 : x2 = 0
    · subst h2
      go_wp2_with (first
          | go_skip
          | ((with_reducible refine isAlloc ?_); refine alA H ?_ (hz := zStm8); clear H; intro q9 _ H)
          | ((with_reducible refine isStore ?_); refine stA H ?_ (hT := by first | exact rStm8 | exact rRat) (hu := by (repeat (first | apply Upd.head | apply Upd.tail | apply Upd.app | assumption))); clear H; intro _ H)
          | ((with_reducible refine isLoad ?_); refine ldA H ?_ (hT := by first | exact rStm8 | exact rWks))
          | ((with_reducible refine isSlc ?_); refine bsA 56 [.slice B1 l1.length c1] 1 H ?_; clear H; intro gz _ H))
      replace H := Lib.hid (H.out.perm (List.perm_middle (l₁ := [_, _])))
      simp only [List.cons_append, List.nil_append] at H
      go_at_call 26
      refine Calls.mono (HC.out w0 _ ((q6, 53, [.int .i64 0, .string ⟨#[]⟩, .string ⟨#[]⟩, .bool false, .string ⟨#[]⟩, .string ⟨#[]⟩, .int .i64 0, .slice none 0 0]) :: (q, 31, [.slice (some ⟨ga, 0, none⟩) na ca, .slice none 0 0, .slice (some ⟨gp, 0, none⟩) np cp, .slice (some ⟨gs, 0, none⟩) ns cc, .slice none 0 0, .bool false, .string ⟨#[]⟩, .string ⟨#[]⟩]) :: m) E0 b S.sn.sn.sn _ H (Lib.hid (HS.out.next.next.next)) WV (Lib.hid (fun x hx => .tail _ (.tail _ (HE.out x hx))))) ?_
      rintro _ _ ⟨x1, l1, S1, E1, rfl, hS1, h2, hR1, hV1⟩
      replace H := Lib.hid h2
      obtain ⟨B1, c1, rfl⟩ := hR1.shape
      have HS1 := Lib.hid hS1
      have HR1 := Lib.hid hR1
      have HV1 := Lib.hid hV1
      clear h2 hS1 hR1 hV1
      go_wp2_with (first
          | go_skip
          | ((with_reducible refine isAlloc ?_); refine alA H ?_ (hz := zStm8); clear H; intro q9 _ H)
          | ((with_reducible refine isStore ?_); refine stA H ?_ (hT := by first | exact rStm8 | exact rRat) (hu := by (repeat (first | apply Upd.head | apply Upd.tail | apply Upd.app | assumption))); clear H; intro _ H)
          | ((with_reducible refine isLoad ?_); refine ldA H ?_ (hT := by first | exact rStm8 | exact rWks))
          | ((with_reducible refine isSlc ?_); refine bsA 56 [.slice B1 l1.length c1] 1 H ?_; clear H; intro gz _ H))
      exact bodyPost_ret (results_H H Tryd.results39 (by exact rStm8) rfl (by (repeat (first | exact List.Mem.head _ | refine List.Mem.tail _ ?_ | refine List.mem_append_right _ ?_ | assumption))) (by rfl)) rfl ⟨⟨6, ⟨#[]⟩, ⟨#[]⟩, none, 0, .slice (some ⟨gz, 0, none⟩) 1 1⟩, .mk 6 ⟨#[]⟩ ⟨#[]⟩ none 0 [l1], S1, (gz, 56, [.slice B1 l1.length c1]) :: E1, rfl, HS1.out, fin1 H.out (by (repeat (first | exact List.Sublist.refl _ | refine List.Sublist.cons_cons _ ?_ | refine List.Sublist.trans ?_ (List.sublist_append_right _ _) | refine List.Sublist.cons _ ?_))), RSt.one_ (.head _) (HR1.out.mono (fun x hx => .tail _ hx)) (by omega) (by omega),
        .inr (.inr (.inr (.inr (.inr ⟨rfl, rfl, rfl, one_mem HV1.out, .inl ⟨rfl, rfl, rfl⟩⟩))))⟩
    · have x20p : ¬ (x2 = 0) := h2
      have x20d : decide (x2 = 0) = false := decide_eq_false x20p
      obtain ⟨r7, hr7⟩ : ∃ r, S.sn.sn.sn.nx 2 = r := ⟨_, rfl⟩
      have hbr7 := S.sn.sn.sn.nx_bd 2 (by omega)
      rw [hr7] at hbr7
      obtain ⟨hbr70, hbr71⟩ := hbr7
      have HVr7 := Lib.hid hr7
      clear hr7
      have hwr : IntKind.i64.wrap (1 + r7) = 1 + r7 := IntWalk.i64_in _ (by omega)
      go_wp2_with (first
          | go_skip
          | ((with_reducible refine isAlloc ?_); refine alA H ?_ (hz := zStm8); clear H; intro q9 _ H)
          | ((with_reducible refine isStore ?_); refine stA H ?_ (hT := by first | exact rStm8 | exact rRat) (hu := by (repeat (first | apply Upd.head | apply Upd.tail | apply Upd.app | assumption))); clear H; intro _ H)
          | ((with_reducible refine isLoad ?_); refine ldA H ?_ (hT := by first | exact rStm8 | exact rWks)))
      replace H := Lib.hid (H.out.perm (List.perm_middle (l₁ := [_, _])))
      simp only [List.cons_append, List.nil_append] at H
      refine wp_region_Y 10 [.c (.pointer (some ⟨b, 0, none⟩)), .y, .c (.int .i64 (1 + r7)), .c (.agg #[.slice (some ⟨ga, 0, none⟩) na ca, .slice none 0 0, .slice (some ⟨gp, 0, none⟩) np cp, .slice (some ⟨gs, 0, none⟩) ns cc, .slice none 0 0, .bool false, .string ⟨#[]⟩, .string ⟨#[]⟩]), .c (.pointer (some ⟨b, 0, none⟩)), .c (.int .i64 p), .c (.int .i64 ((p : Int) + 1)), .y, .a, .y] ((q6, 53, [.int .i64 0, .string ⟨#[]⟩, .string ⟨#[]⟩, .bool false, .string ⟨#[]⟩, .string ⟨#[]⟩, .int .i64 0, .slice none 0 0]) :: (q, 31, [.slice (some ⟨ga, 0, none⟩) na ca, .slice none 0 0, .slice (some ⟨gp, 0, none⟩) np cp, .slice (some ⟨gs, 0, none⟩) ns cc, .slice none 0 0, .bool false, .string ⟨#[]⟩, .string ⟨#[]⟩]) :: m) H (by (repeat (first | exact List.Sublist.refl _ | refine List.Sublist.cons_cons _ ?_ | refine List.Sublist.trans ?_ (List.sublist_append_right _ _) | refine List.Sublist.cons _ ?_))) (by kernel_rfl) (by kernel_rfl) (by kernel_rfl) ?_
      simp only [List.take_succ_cons, List.take_zero, List.drop_succ_cons, List.drop_zero]
      refine wpY_c (by rfl) (by (first | exact wanted_none rfl | exact wanted_some rfl rfl)) (by intro W _; first | (go_simp; rfl) | (go_simp; done) | (trace_state; fail)) ?_
      (simp only [Act.put, List.setIfInBounds_toArray, List.set_cons_succ, List.set_cons_zero])
      refine wpY_y (by rfl) (by (first | exact wanted_none rfl | exact wanted_some rfl rfl)) (fun G F W HF hG => ?_)
      go_simp
      unfold upY
      refine Calls.mono (nextH_any (m' := ((b, 73, [S.sn.sn.sn.sn.v]) :: (q6, 53, [.int .i64 0, .string ⟨#[]⟩, .string ⟨#[]⟩, .bool false, .string ⟨#[]⟩, .string ⟨#[]⟩, .int .i64 0, .slice none 0 0]) :: (q, 31, [.slice (some ⟨ga, 0, none⟩) na ca, .slice none 0 0, .slice (some ⟨gp, 0, none⟩) np cp, .slice (some ⟨gs, 0, none⟩) ns cc, .slice none 0 0, .bool false, .string ⟨#[]⟩, .string ⟨#[]⟩]) :: m) ++ F) S.sn.sn.sn b 2 HF (Lib.hid (HS.out.next.next.next)) (Lib.hid (by (repeat (first | apply Upd.head | apply Upd.tail | assumption)))) (by omega) (by omega)) ?_
      rintro _ W2 ⟨rfl, h2⟩
      refine ⟨_, rfl, hG _ _ ((b, 73, [S.sn.sn.sn.sn.v]) :: (q6, 53, [.int .i64 0, .string ⟨#[]⟩, .string ⟨#[]⟩, .bool false, .string ⟨#[]⟩, .string ⟨#[]⟩, .int .i64 0, .slice none 0 0]) :: (q, 31, [.slice (some ⟨ga, 0, none⟩) na ca, .slice none 0 0, .slice (some ⟨gp, 0, none⟩) np cp, .slice (some ⟨gs, 0, none⟩) ns cc, .slice none 0 0, .bool false, .string ⟨#[]⟩, .string ⟨#[]⟩]) :: m) h2 (by (repeat (first | exact List.Sublist.refl _ | refine List.Sublist.cons_cons _ ?_ | refine List.Sublist.trans ?_ (List.sublist_append_right _ _) | refine List.Sublist.cons _ ?_))) ?_⟩
      clear HF hG h2
      rw [HVr7.out]
      (simp only [Act.put, List.setIfInBounds_toArray, List.set_cons_succ, List.set_cons_zero])
      refine wpY_c (by rfl) (by (first | exact wanted_none rfl | exact wanted_some rfl rfl)) (by intro W _; first | (go_simp; rfl) | (go_simp; done) | (trace_state; fail)) ?_
      (simp only [Act.put, List.setIfInBounds_toArray, List.set_cons_succ, List.set_cons_zero])
      refine wpY_load (by rfl) (by rfl) (by (first | exact wanted_none rfl | exact wanted_some rfl rfl)) rWks (by rfl) (by (repeat (first | exact List.Mem.head _ | refine List.Mem.tail _ ?_ | assumption))) (by first | rfl | ((simp only [List.drop, List.take]); rfl)) (by rfl) ?_
      (simp only [Act.put, List.setIfInBounds_toArray, List.set_cons_succ, List.set_cons_zero])
      refine wpY_c (by rfl) (by (first | exact wanted_none rfl | exact wanted_some rfl rfl)) (by intro W _; first | (go_simp; rfl) | (go_simp; done) | (trace_state; fail)) ?_
      (simp only [Act.put, List.setIfInBounds_toArray, List.set_cons_succ, List.set_cons_zero])
      refine wpY_c (by rfl) (by (first | exact wanted_none rfl | exact wanted_some rfl rfl)) (by intro W _; first | (go_simp; rfl) | (go_simp; done) | (trace_state; fail)) ?_
      (simp only [Act.put, List.setIfInBounds_toArray, List.set_cons_succ, List.set_cons_zero])
      refine wpY_c (by rfl) (by (first | exact wanted_none rfl | exact wanted_some rfl rfl)) (by intro W _; first | (go_simp; rfl) | (go_simp; done) | (trace_state; fail)) ?_
      (simp only [Act.put, List.setIfInBounds_toArray, List.set_cons_succ, List.set_cons_zero])
      refine wpY_y (by rfl) (by (first | exact wanted_none rfl | exact wanted_some rfl rfl)) (fun G F W HF hG => ?_)
      go_simp
      unfold upY
      refine Calls.mono (HC.out w0 W (((q6, 53, [.int .i64 0, .string ⟨#[]⟩, .string ⟨#[]⟩, .bool false, .string ⟨#[]⟩, .string ⟨#[]⟩, .int .i64 0, .slice none 0 0]) :: (q, 31, [.slice (some ⟨ga, 0, none⟩) na ca, .slice none 0 0, .slice (some ⟨gp, 0, none⟩) np cp, .slice (some ⟨gs, 0, none⟩) ns cc, .slice none 0 0, .bool false, .string ⟨#[]⟩, .string ⟨#[]⟩]) :: m) ++ F) E0 b S.sn.sn.sn.sn _ HF (Lib.hid (HS.out.next.next.next.next)) WV (Lib.hid (fun x hx => by have := HE.out x hx; simp [this]))) ?_
      rintro _ W2 ⟨x1, l1, S1, E1, rfl, hS1, h2, hR1, hV1⟩
      obtain ⟨B1, c1, rfl⟩ := hR1.shape
      refine ⟨_, rfl, hG _ _ ((b, 73, [S1.v]) :: (E1 ++ ((q6, 53, [.int .i64 0, .string ⟨#[]⟩, .string ⟨#[]⟩, .bool false, .string ⟨#[]⟩, .string ⟨#[]⟩, .int .i64 0, .slice none 0 0]) :: (q, 31, [.slice (some ⟨ga, 0, none⟩) na ca, .slice none 0 0, .slice (some ⟨gp, 0, none⟩) np cp, .slice (some ⟨gs, 0, none⟩) ns cc, .slice none 0 0, .bool false, .string ⟨#[]⟩, .string ⟨#[]⟩]) :: m))) (by simpa only [List.cons_append, List.append_assoc] using h2) (by (repeat (first | exact List.Sublist.refl _ | refine List.Sublist.cons_cons _ ?_ | refine List.Sublist.trans ?_ (List.sublist_append_right _ _) | refine List.Sublist.cons _ ?_))) ?_⟩
      have HS1 := Lib.hid hS1
      have HR1 := Lib.hid hR1
      have HV1 := Lib.hid hV1
      clear HF hG h2 hS1 hR1 hV1
      (simp only [Act.put, List.setIfInBounds_toArray, List.set_cons_succ, List.set_cons_zero])
      refine wpY_V 56 ([.slice B1 l1.length c1]) 1 (by rfl) (by rfl) (by intro W; kernel_rfl) ?_
      intro gz
      (simp only [Act.put, List.setIfInBounds_toArray, List.set_cons_succ, List.set_cons_zero])
      refine wpY_p (by rfl) (by (repeat (first | exact List.Sublist.refl _ | refine List.Sublist.cons_cons _ ?_ | refine List.Sublist.trans ?_ (List.sublist_append_right _ _) | refine List.Sublist.cons _ ?_))) (by (first | exact wanted_none rfl | exact wanted_some rfl rfl)) (by intro W; first | (go_simp; rfl) | go_simp) ?_
      (simp only [Act.put, List.setIfInBounds_toArray, List.set_cons_succ, List.set_cons_zero])
      refine wpY_nil ?_
      clear H
      intro _ H
      go_wp2_with (first
          | go_skip
          | ((with_reducible refine isAlloc ?_); refine alA H ?_ (hz := zStm8); clear H; intro q9 _ H)
          | ((with_reducible refine isStore ?_); refine stA H ?_ (hT := by first | exact rStm8 | exact rRat) (hu := by (repeat (first | apply Upd.head | apply Upd.tail | apply Upd.app | assumption))); clear H; intro _ H)
          | ((with_reducible refine isLoad ?_); refine ldA H ?_ (hT := by first | exact rStm8 | exact rWks)))
      exact bodyPost_ret (results_H H Tryd.results39 (by exact rStm8) rfl (by (repeat (first | exact List.Mem.head _ | refine List.Mem.tail _ ?_ | refine List.mem_append_right _ ?_ | assumption))) (by rfl)) rfl ⟨⟨7, ⟨#[]⟩, ⟨#[]⟩, none, (1 + r7), .slice (some ⟨gz, 0, none⟩) 1 1⟩, .mk 7 ⟨#[]⟩ ⟨#[]⟩ none (1 + r7) [l1], S1, (gz, 56, [.slice B1 l1.length c1]) :: E1, rfl, HS1.out, fin1 H.out (by (repeat (first | exact List.Sublist.refl _ | refine List.Sublist.cons_cons _ ?_ | refine List.Sublist.trans ?_ (List.sublist_append_right _ _) | refine List.Sublist.cons _ ?_))), RSt.one_ (.head _) (HR1.out.mono (fun x hx => .tail _ hx)) (by omega) (by omega),
        .inr (.inr (.inr (.inr (.inr ⟨rfl, rfl, rfl, one_mem HV1.out, .inr (.inl ⟨rfl, ⟨by show 1 ≤ 1 + r7; omega, by show 1 + r7 ≤ 2; omega⟩, rfl⟩)⟩))))⟩
end Go.Proofs.YtbphdmnomakeoaaDoor

namespace Go.Proofs.YtbphdmnomakeoaaDoor
open Go.RowKit
set_option linter.unusedVariables false
set_option maxRecDepth 100000

theorem i8 : InfoT Tryd.prog 53 8 112 := InfoT.of zStm8 (by kernel_rfl) rfl
theorem mv_perm {s q : Nat × TypeId × List Value} {E1 R T : Ents} : (s :: (E1 ++ (q :: (R ++ T)))).Perm (s :: q :: (R ++ (E1 ++ T))) :=
  .cons _ (List.perm_middle.trans (.cons _ (List.perm_append_comm_assoc _ _ _)))
theorem RSt.shape8 {E : Ents} {d : Nat} {s : Stm} {v : Sv} (h : RSt E d s v) : ∃ k a b wd n B m c, v = ⟨k, a, b, wd, n, .slice B m c⟩ := by
  obtain ⟨B, c, hb⟩ := h.shape
  obtain ⟨k, a, b, wd, n, bv⟩ := v
  simp only at hb
  exact ⟨k, a, b, wd, n, B, _, c, by rw [hb]⟩
theorem kk_of {x : Int} (h0 : 0 ≤ x) (h : x < 2) : ∃ k : Nat, 1 + x = k ∧ 1 ≤ k ∧ k ≤ 2 := ⟨(1 + x).toNat, by omega, by omega, by omega⟩
set_option maxHeartbeats 4000000 in
theorem stmtsJ_of (na np ns p d : Nat) (hp : p ≤ 3) (hC : StmJ na np ns p d) : StsJ na np ns p d := by
  have HC := Lib.hid hC
  clear hC
  intro w0 w m E0 b S cs H HS WV HE
  obtain ⟨av, pv, sv, rfl, RA, RP, RS⟩ := id WV.out
  obtain ⟨n1, e1⟩ : ∃ n, (armN.take na).length = n := ⟨_, rfl⟩
  obtain ⟨n2, e2⟩ : ∃ n, (partN.take np).length = n := ⟨_, rfl⟩
  obtain ⟨n3, e3⟩ : ∃ n, ((slotN.take ns).map sltOf).length = n := ⟨_, rfl⟩
  rw [e1] at RA
  rw [e2] at RP
  rw [e3] at RS
  obtain ⟨Ba, ca, rfl, _⟩ := RA.shape
  obtain ⟨Bp, cp, rfl, _⟩ := RP.shape
  obtain ⟨Bs, cc, rfl, _⟩ := RS.shape
  clear RA RP RS e1 e2 e3
  obtain ⟨x2, hx2⟩ : ∃ r, S.nx 2 = r := ⟨_, rfl⟩
  have hbx2 := S.nx_bd 2 (by omega)
  rw [hx2] at hbx2
  obtain ⟨hbx20, hbx21⟩ := hbx2
  have HVx2 := Lib.hid hx2
  clear hx2
  obtain ⟨k, hk, hk1, hk2⟩ := kk_of hbx20 hbx21
  go_enter Tryd.func26, Tryd.ntmps26
  go_wp2_with (first
      | go_skip
      | ((with_reducible refine isBox ?_); refine bxA H ?_; clear H; intro q _ H))
  go_at_call 19
  refine Calls.mono (nextH_any S b 2 H HS (Lib.hid (by (repeat (first | apply Upd.head | apply Upd.tail | assumption)))) (by omega) (by omega)) ?_
  rintro _ _ ⟨rfl, h2⟩
  replace H := Lib.hid h2
  clear h2
  rw [HVx2.out]
  go_wp2_with (first
      | go_skip
      | ((with_reducible refine isBox ?_); refine bxA H ?_; clear H; intro q _ H))
  replace H := Lib.hid (H.out.perm (List.Perm.swap _ _ _))
  go_loopw [7, 11] (fun v_ i_ wr => ∃ (j : Nat) (ls : List Stm) (svs : List Sv) (S1 : Sd) (E : Ents) (cur : List Value), i_ = .int .i64 j ∧ j ≤ k ∧ ls.length = j ∧ Hid (S1.ok w0) ∧ Hid (RowV 8 v_ j (flat Sv.cells svs) cur) ∧ Hid (All2 (RSt E d) ls svs) ∧ Hid (∀ x ∈ ls, VSt na np ns d x) ∧ Hid (Hp w0 wr ((b, 73, [S1.v]) :: (q, 31, [.slice Ba n1 ca, .slice none 0 0, .slice Bp n2 cp, .slice Bs n3 cc, .slice none 0 0, .bool false, .string ⟨#[]⟩, .string ⟨#[]⟩]) :: (rowE v_ 53 cur ++ (E ++ m))))) (fun _ i_ _ => k - (intOf i_).toNat)
  case atStart => exact ⟨0, [], [], S.sn, [], [], rfl, by omega, rfl, Lib.hid HS.out.next, Lib.hid (RowV.nil 8), Lib.hid All2.nil, Lib.hid (fun x hx => by cases hx), H⟩
  case round =>
    clear H HS
    obtain ⟨j, ls, svs, S1, E, cur, rfl, hj, hlen, HS, R, R2, HV, H⟩ := hrel
    by_cases hlt : j < k
    · go_wp2_with (first
          | go_skip
          | ((with_reducible refine isLoad ?_); refine ldA H ?_ (hT := by first | exact rStm8 | exact rWks))
          | ((with_reducible refine isSlc ?_); refine bsA 53 (Sv.cells ⟨vk, va, vb, vw, vn, .slice B2 m2 c2⟩) 1 H ?_; clear H; intro gz _ H)
          | ((with_reducible refine isApp ?_); refine wpList_appH [(gz, 53, _), (b, 73, _), (q, 31, _)] (E1 ++ (E ++ m)) H R (by rfl) i8 (by decide) Tryd.underlying56 (by rfl) (by rfl) (by rfl) (by rfl) (.head _) (by rfl) (by rfl) (by omega) (by simp only [maxLen]; omega) (by omega) ?_; clear H R; intro _ _ _ R H))
      go_at_call 39
      refine Calls.mono (HC.out w0 _ _ E0 b S1 _ H HS WV (Lib.hid (fun x hx => .tail _ (List.mem_append_right _ (List.mem_append_right _ (HE.out x hx)))))) ?_
      rintro _ _ ⟨v, s, S2, E1, rfl, hS2, h2, hR, hVs⟩
      replace H := Lib.hid (h2.perm mv_perm)
      obtain ⟨vk, va, vb, vw, vn, B2, m2, c2, rfl⟩ := hR.shape8
      have HS2 := Lib.hid hS2
      have HR := Lib.hid hR
      have HVs := Lib.hid hVs
      clear h2 hS2 hR hVs HS
      unfold Sv.cells
      go_wp2_with (first
          | go_skip
          | ((with_reducible refine isLoad ?_); refine ldA H ?_ (hT := by first | exact rStm8 | exact rWks))
          | ((with_reducible refine isSlc ?_); refine bsA 53 (Sv.cells ⟨vk, va, vb, vw, vn, .slice B2 m2 c2⟩) 1 H ?_; clear H; intro gz _ H)
          | ((with_reducible refine isApp ?_); refine wpList_appH [(gz, 53, _), (b, 73, _), (q, 31, _)] (E1 ++ (E ++ m)) H R (by rfl) i8 (by decide) Tryd.underlying56 (by rfl) (by rfl) (by rfl) (by rfl) (.head _) (by rfl) (by rfl) (by omega) (by simp only [maxLen]; omega) (by omega) ?_; clear H R; intro _ _ _ R H))
      go_roundw
      case rel => first | exact ⟨j + 1, ls ++ [s], svs ++ [⟨vk, va, vb, vw, vn, .slice B2 m2 c2⟩], S2, E1 ++ E, _, by go_num, by omega, by simp [hlen], HS2, by rw [flat_append, flat_one]; exact R, Lib.hid ((R2.out.mono fun _ _ h => h.mono fun x hx => List.mem_append_right _ hx).snoc (HR.out.mono fun x hx => List.mem_append_left _ hx)), Lib.hid (fun x hx => by rcases List.mem_append.1 hx with hx | hx; exact HV.out x hx; obtain rfl := List.mem_singleton.1 hx; exact HVs.out), by rw [List.append_assoc]; exact Lib.hid H.out.drop⟩ | exact ⟨_, _, _, _, ⟨j + 1, ls ++ [s], svs ++ [⟨vk, va, vb, vw, vn, .slice B2 m2 c2⟩], S2, E1 ++ E, _, by go_num, by omega, by simp [hlen], HS2, by rw [flat_append, flat_one]; exact R, Lib.hid ((R2.out.mono fun _ _ h => h.mono fun x hx => List.mem_append_right _ hx).snoc (HR.out.mono fun x hx => List.mem_append_left _ hx)), Lib.hid (fun x hx => by rcases List.mem_append.1 hx with hx | hx; exact HV.out x hx; obtain rfl := List.mem_singleton.1 hx; exact HVs.out), by rw [List.append_assoc]; exact Lib.hid H.out.drop⟩, rfl, rfl⟩ | (trace_state; fail)
      case measure => simp [intOf]; omega
    · go_wp2_with (first
          | go_skip)
      go_ret
      obtain rfl : j = k := by omega
      refine ⟨_, ls, S1, rowE _ 53 cur ++ E, rfl, HS.out, ?_, ⟨svs, ⟨cur, by rw [← R2.out.1, hlen]; exact R.out, fun x hx => List.mem_append_left _ hx⟩, R2.out.mono fun _ _ h => h.mono fun x hx => List.mem_append_right _ hx⟩, ⟨by omega, by omega⟩, HV.out⟩
      rw [List.append_assoc]
      exact H.out.sub (List.Sublist.cons_cons _ (List.Sublist.cons _ (List.Sublist.refl _)))
end Go.Proofs.YtbphdmnomakeoaaDoor

namespace Go.Proofs.YtbphdmnomakeoaaDoor
open Go.RowKit
set_option linter.unusedVariables false
set_option maxRecDepth 100000

theorem zJob : (Tryd.prog.info? 58).bind (·.zero) = some (.agg #[.string ⟨#[]⟩, .slice none 0 0]) := by kernel_rfl
/-- The contract of gantkeep4.stmts at the top. -/
theorem stmtsJ_top (na np ns : Nat) (hna : 1 ≤ na ∧ na ≤ 2) (hnp : 1 ≤ np ∧ np ≤ 2) (hns : 1 ≤ ns ∧ ns ≤ 2) : StsJ na np ns 1 3 :=
  stmtsJ_of na np ns 1 3 (by decide) (stmtJ_inner na np ns 2 1 hna hnp hns (by decide) (by decide) (stmtsJ_of na np ns 2 2 (by decide) (stmtJ_inner na np ns 1 2 hna hnp hns (by decide) (by decide) (stmtsJ_of na np ns 3 1 (by decide) (stmtJ_leaf na np ns 0 hna hnp hns)))))
set_option maxHeartbeats 4000000 in
theorem Job_any (na np ns : Nat) (hna : 1 ≤ na ∧ na ≤ 2) (hnp : 1 ≤ np ∧ np ≤ 2) (hns : 1 ≤ ns ∧ ns ≤ 2) (w0 w : World) (m E0 : Ents) (S : Sd) (cs : List Value) (H : Hid (Hp w0 w m)) (HS : Hid (S.ok w0)) (WV : Hid (WkV E0 (armN.take na) (partN.take np) ((slotN.take ns).map sltOf) cs)) (HE : Hid (∀ x ∈ E0, x ∈ m)) :
    Calls Tryd.prog 11 #[.agg cs.toArray, S.v] w fun e w' => ∃ (x : Value) (l : List Stm) (E : Ents), e = .returned (.agg #[.string ⟨#[116, 97, 115, 107]⟩, x]) ∧ Hp w0 w' (E ++ m) ∧ RSs E 3 l x ∧ VSs na np ns 3 l := by
  have HC := Lib.hid (stmtsJ_top na np ns hna hnp hns)
  clear hna hnp hns
  obtain ⟨av, pv, sv, rfl, RA, RP, RS⟩ := id WV.out
  obtain ⟨n1, e1⟩ : ∃ n, (armN.take na).length = n := ⟨_, rfl⟩
  obtain ⟨n2, e2⟩ : ∃ n, (partN.take np).length = n := ⟨_, rfl⟩
  obtain ⟨n3, e3⟩ : ∃ n, ((slotN.take ns).map sltOf).length = n := ⟨_, rfl⟩
  rw [e1] at RA
  rw [e2] at RP
  rw [e3] at RS
  obtain ⟨Ba, ca, rfl, _⟩ := RA.shape
  obtain ⟨Bp, cp, rfl, _⟩ := RP.shape
  obtain ⟨Bs, cc, rfl, _⟩ := RS.shape
  clear RA RP RS e1 e2 e3
  obtain ⟨Av, nv, cv, hsv⟩ : ∃ A n c, S.v = .slice A n c := ⟨_, _, _, rfl⟩
  have HSV := Lib.hid hsv
  rw [hsv]
  clear hsv
  go_enter Tryd.func11, Tryd.ntmps11
  go_wp2_with (first
      | go_skip
      | ((with_reducible refine isLoad ?_); refine ldA H ?_ (hT := by first | exact rWks | exact rJob))
      | ((with_reducible refine isStore ?_); refine stA H ?_ (hT := rJob) (hu := by (repeat (first | apply Upd.head | apply Upd.tail | apply Upd.app | assumption))); clear H; intro _ H)
      | ((with_reducible refine isBox ?_); refine bxA H ?_; clear H; intro q _ H)
      | ((with_reducible refine isAlloc ?_); refine alA H ?_ (hz := zJob); clear H; intro q4 _ H))
  go_at_call 26
  refine Calls.mono (HC.out w0 _ _ E0 _ S _ (by rw [HSV.out]; exact H) HS WV (Lib.hid (fun x hx => .tail _ (.tail _ (HE.out x hx))))) ?_
  rintro _ _ ⟨x, l, S1, E1, rfl, hS1, h2, hR, hV⟩
  replace H := Lib.hid h2
  obtain ⟨B1, c1, rfl⟩ := hR.shape
  have HR := Lib.hid hR
  have HV := Lib.hid hV
  clear h2 hR hV hS1
  go_wp2_with (first
      | go_skip
      | ((with_reducible refine isLoad ?_); refine ldA H ?_ (hT := by first | exact rWks | exact rJob))
      | ((with_reducible refine isStore ?_); refine stA H ?_ (hT := rJob) (hu := by (repeat (first | apply Upd.head | apply Upd.tail | apply Upd.app | assumption))); clear H; intro _ H)
      | ((with_reducible refine isBox ?_); refine bxA H ?_; clear H; intro q _ H)
      | ((with_reducible refine isAlloc ?_); refine alA H ?_ (hz := zJob); clear H; intro q4 _ H))
  exact bodyPost_ret (results_H H Tryd.results11 (by exact rJob) rfl (by (repeat (first | exact List.Mem.head _ | refine List.Mem.tail _ ?_ | refine List.mem_append_right _ ?_ | assumption))) (by rfl)) rfl ⟨_, l, E1, rfl, H.out.sub (by (refine List.Sublist.cons _ ((List.Sublist.refl _).append (.cons _ (.cons _ (List.Sublist.refl _)))))), HR.out, HV.out⟩
end Go.Proofs.YtbphdmnomakeoaaDoor

namespace Go.Proofs.YtbphdmnomakeoaaDoor
open Go.RowKit
set_option linter.unusedVariables false
set_option maxRecDepth 100000

theorem kFun : ∃ d, Tryd.prog.underlying 96 = some d ∧ d.isRow = false := ⟨_, Tryd.underlying96, rfl⟩
theorem sFun : (Tryd.prog.info? 96).map (·.size) = some 1 := by kernel_rfl
/-- The statements without blocks, in the order of the text. -/
def lvS : Nat → Stm → List Stm
  | 0, _ => []
  | d + 1, s => (if s.k < 6 then [s] else []) ++ s.bl.flatMap (fun b => b.flatMap (lvS d))
def lvL (d : Nat) (l : List Stm) : List Stm := l.flatMap (lvS d)
/-- A statement that lies in the blocks E, whatever its depth. -/
def RLf (E : Ents) (s : Stm) (v : Sv) : Prop := ∃ d, RSt E (d + 1) s v
def LeafC (d : Nat) : Prop := ∀ (w0 w : World) (m E : Ents) (bo bf : Nat) (v : Value) (n : Nat) (svs : List Sv) (cur : List Value) (l : List Stm) (x : Value) (p : Nat), Hid (Hp w0 w ((bo, 56, [v]) :: (bf, 96, [.func (.func 33) #[] #[.pointer (some ⟨bo, 0, none⟩), .pointer (some ⟨bf, 0, none⟩)]]) :: (rowE v 53 cur ++ m))) → Hid (∀ x ∈ E, x ∈ m) → Hid (RowV 8 v n (flat Sv.cells svs) cur) → Hid (RSs E d l x) → n + (lvL d l).length ≤ 1000 → d + p ≤ 100 →
  Calls Tryd.prog 33 #[x, .int .i64 p, .pointer (some ⟨bo, 0, none⟩), .pointer (some ⟨bf, 0, none⟩)] w fun e w' => ∃ (v' : Value) (cur' : List Value) (svs' : List Sv), e = .returned (.tuple #[]) ∧ All2 (RLf E) (lvL d l) svs' ∧ RowV 8 v' (n + svs'.length) (flat Sv.cells (svs ++ svs')) cur' ∧ Hp w0 w' ((bo, 56, [v']) :: (bf, 96, [.func (.func 33) #[] #[.pointer (some ⟨bo, 0, none⟩), .pointer (some ⟨bf, 0, none⟩)]]) :: (rowE v' 53 cur' ++ m))
theorem lvL_take {d : Nat} {l : List Stm} {j : Nat} {s : Stm} (h : l[j]? = some s) : lvL d (l.take (j + 1)) = lvL d (l.take j) ++ lvS d s := by
  obtain ⟨hj, rfl⟩ := List.getElem?_eq_some_iff.1 h
  unfold lvL
  rw [List.take_succ_eq_append_getElem hj, List.flatMap_append, List.flatMap_singleton]
theorem flatMap_take {α β : Type} {f : α → List β} {l : List α} {j : Nat} {s : α} (h : l[j]? = some s) : (l.take (j + 1)).flatMap f = (l.take j).flatMap f ++ f s := by
  obtain ⟨hj, rfl⟩ := List.getElem?_eq_some_iff.1 h
  rw [List.take_succ_eq_append_getElem hj, List.flatMap_append, List.flatMap_singleton]
theorem flatMap_take_le {α β : Type} (f : α → List β) (l : List α) (j : Nat) : ((l.take j).flatMap f).length ≤ (l.flatMap f).length := by
  conv => rhs; rw [← List.take_append_drop j l, List.flatMap_append, List.length_append]
  omega
theorem rot_perm {q a b : Nat × TypeId × List Value} {R T : Ents} : (q :: a :: b :: (R ++ T)).Perm (a :: b :: (R ++ (q :: T))) :=
  (List.Perm.swap _ _ _).trans (.cons _ ((List.Perm.swap _ _ _).trans (.cons _ List.perm_middle.symm)))
theorem RowV.snoc_ {v : Value} {n : Nat} {a b : List Sv} {x : Sv} {cur : List Value} (h : Hid (RowV 8 v (n + a.length + 1) (flat Sv.cells (b ++ a) ++ x.cells) cur)) : Hid (RowV 8 v (n + ((a ++ [x]) ++ []).length) (flat Sv.cells (b ++ ((a ++ [x]) ++ []))) cur) := by
  have e : b ++ ((a ++ [x]) ++ []) = (b ++ a) ++ [x] := by simp
  rw [e, flat_append, flat_one, List.append_nil, List.length_append]
  exact h
theorem RSt.shape9 {E : Ents} {d : Nat} {s : Stm} {v : Sv} (h : RSt E d s v) : ∃ k a b wd n B c, v = ⟨k, a, b, wd, n, .slice B s.bl.length c⟩ ∧ k = s.k := by
  obtain ⟨B, c, hb⟩ := h.shape
  obtain ⟨k, a, b, wd, n, bv⟩ := v
  simp only at hb
  refine ⟨k, a, b, wd, n, B, c, by rw [hb], ?_⟩
  cases d with
  | zero => exact h.elim
  | succ d => exact h.2.1
set_option maxHeartbeats 4000000 in
theorem leaves_of (d : Nat) (hI : LeafC d) : LeafC (d + 1) := by
  intro w0 w m E bo bf v n svs cur l x p H HE R RS hb hp
  have HI := Lib.hid hI
  clear hI
  obtain ⟨lvs, hR1, hR2⟩ := RS.out
  have RL := Lib.hid hR1
  have RA := Lib.hid hR2
  obtain ⟨nl, hnl⟩ : ∃ n, lvs.length = n := ⟨_, rfl⟩
  rw [hnl] at RL
  replace RL := Lib.hid RL
  have hle := RL.out.le
  have HLL : Hid (l.length = nl) := Lib.hid (hR2.1.trans hnl)
  clear hR1 hR2 hnl RS
  obtain ⟨B, c, rfl, _⟩ := RL.out.shape
  go_enter Tryd.func33, Tryd.ntmps33
  go_wp2_with (first
      | go_skip)
  go_loopw [12] (fun i_ wr => ∃ (j : Nat) (v2 : Value) (cur2 : List Value) (sv2 : List Sv), i_ = .int .i64 j ∧ j ≤ nl ∧ Hid (All2 (RLf E) (lvL (d + 1) (l.take j)) sv2) ∧ Hid (RowV 8 v2 (n + sv2.length) (flat Sv.cells (svs ++ sv2)) cur2) ∧ Hid (Hp w0 wr ((bo, 56, [v2]) :: (bf, 96, [.func (.func 33) #[] #[.pointer (some ⟨bo, 0, none⟩), .pointer (some ⟨bf, 0, none⟩)]]) :: (rowE v2 53 cur2 ++ m)))) (fun i_ _ => nl - (intOf i_).toNat)
  case atStart => exact ⟨0, v, cur, [], rfl, by omega, Lib.hid All2.nil, by simpa using R, H⟩
  case round =>
    clear H R
    obtain ⟨j, v2, cur2, sv2, rfl, hj, RV, R, H⟩ := hrel
    by_cases hlt : j < nl
    · obtain ⟨s, hs⟩ : ∃ s, l[j]? = some s := ⟨_, List.getElem?_eq_getElem (by rw [HLL.out]; exact hlt)⟩
      obtain ⟨sv, hsv, hRS⟩ := RA.out.at_ hs
      obtain ⟨g, c', e1, hr⟩ := RL.out.at_ Sv.len hsv (by decide)
      injection e1 with e1 _ e3
      subst e1
      have X := Lib.hid (hr _ (H.out.hld (fun x hx => .tail _ (.tail _ (List.mem_append_right _ (HE.out x hx))))))
      have HS := Lib.hid hs
      have hcnt : n + sv2.length + (lvS (d + 1) s).length ≤ 1000 := by
        have h1 := flatMap_take_le (lvS (d + 1)) l (j + 1)
        rw [flatMap_take hs, List.length_append] at h1
        have h2 := RV.out.1
        unfold lvL at h2 hb
        omega
      obtain ⟨vk, va, vb, vw, vn, Bb, cb, rfl, hk⟩ := hRS.shape9
      obtain ⟨bvs, hB1, hB2⟩ := hRS.bl
      obtain ⟨nb, hnb⟩ : ∃ nb, s.bl.length = nb := ⟨_, rfl⟩
      have hbl : bvs.length = nb := by rw [← hB2.1, hnb]
      rw [hbl] at hB1
      simp only [hnb] at hB1 hRS X
      have RB := Lib.hid hB1
      have RC := Lib.hid hB2
      have HNB := Lib.hid hnb
      have HRS := Lib.hid hRS
      have HK := Lib.hid hk
      have hnble := RB.out.le
      clear hs hsv hr e3 hB1 hB2 hnb hbl hRS hk
      by_cases hk6 : vk < 6
      · have k6p : vk < 6 := hk6
        have k6d : decide (vk < 6) = true := decide_eq_true k6p
        go_wp2_with (first
            | go_skip
            | ((with_reducible refine isLoad ?_); refine ldX (cs := [.int .i64 vk, .string va, .string vb, .bool (sgO vw), .string (nuO vw), .string (deO vw), .int .i64 vn, .slice Bb nb cb]) X ?_ (hT := rStm8))
            | ((with_reducible refine isLoad ?_); refine ldA H ?_ (hT := rStm8))
            | ((with_reducible refine isStore ?_); refine stA H ?_ (hT := rStm8); clear H; intro _ H)
            | ((with_reducible refine isAlloc ?_); refine alA H ?_ (hz := zStm8); clear H; intro q _ H)
            | ((with_reducible refine isLoad ?_); refine ld1A H ?_ (hT := by first | exact kInt | exact kStl | exact kBll | exact kFun | exact kStr | exact kGal))
            | ((with_reducible refine isSlc ?_); refine bsA 53 [.int .i64 vk, .string va, .string vb, .bool (sgO vw), .string (nuO vw), .string (deO vw), .int .i64 vn, .slice Bb nb cb] 1 H ?_; clear H; intro gz _ H)
            | ((with_reducible refine isApp ?_); refine wpList_appH [(gz, 53, _), (q, 53, _), (bo, 56, _), (bf, 96, _)] m H R (by rfl) i8 (by decide) Tryd.underlying56 (by rfl) (by rfl) (by rfl) (by rfl) (.head _) (by rfl) (by rfl) (by omega) (by simp only [maxLen]; omega) (by omega) ?_; clear H R; intro v3 cur3 _ R H; obtain ⟨B3, c3, rfl, _⟩ := R.out.shape)
            | ((with_reducible refine isStore ?_); refine st1A H ?_ (hT := by first | exact sStl | exact sFun); clear H; intro _ H))
        obtain ⟨sb, hsb, hSB⟩ : ∃ sb : List Sv, sb = sv2 ++ [⟨vk, va, vb, vw, vn, .slice Bb nb cb⟩] ∧ All2 (RLf E) (lvL (d + 1) (l.take j) ++ (if s.k < 6 then [s] else [])) sb := ⟨_, rfl, by rw [if_pos (by rw [← HK.out]; exact hk6)]; exact RV.out.snoc ⟨d, HRS.out⟩⟩
        replace R := RowV.snoc_ (x := ⟨vk, va, vb, vw, vn, .slice Bb nb cb⟩) R
        rw [← hsb] at R
        have HSB := Lib.hid hSB
        clear hSB hsb
        replace H := Lib.hid H.out.drop
        have hcs : n + sb.length + (s.bl.flatMap (fun b => b.flatMap (lvS d))).length ≤ 1000 := by
          have h1 := HSB.out.1
          have h2 := RV.out.1
          have h3 : (lvS (d + 1) s).length = (if s.k < 6 then [s] else []).length + (s.bl.flatMap (fun b => b.flatMap (lvS d))).length := by rw [lvS, List.length_append]
          rw [List.length_append] at h1
          omega
        go_loopw [26] (fun i_ wr => ∃ (j2 : Nat) (v4 : Value) (cur4 : List Value) (sv4 : List Sv), i_ = .int .i64 j2 ∧ j2 ≤ nb ∧ Hid (All2 (RLf E) ((s.bl.take j2).flatMap (fun b => b.flatMap (lvS d))) sv4) ∧ Hid (RowV 8 v4 (n + (sb ++ sv4).length) (flat Sv.cells (svs ++ (sb ++ sv4))) cur4) ∧ Hid (Hp w0 wr ((q, 53, [.int .i64 vk, .string va, .string vb, .bool (sgO vw), .string (nuO vw), .string (deO vw), .int .i64 vn, .slice Bb nb cb]) :: (bo, 56, [v4]) :: (bf, 96, [.func (.func 33) #[] #[.pointer (some ⟨bo, 0, none⟩), .pointer (some ⟨bf, 0, none⟩)]]) :: (rowE v4 53 cur4 ++ m)))) (fun i_ _ => nb - (intOf i_).toNat)
        case atStart => exact ⟨0, _, _, [], rfl, by omega, Lib.hid All2.nil, R, H⟩
        case round =>
          clear H R
          obtain ⟨j2, v4, cur4, sv4, rfl, hj2, RV4, R, H⟩ := hrel
          by_cases hlt2 : j2 < nb
          · obtain ⟨bl, hbl⟩ : ∃ b, s.bl[j2]? = some b := ⟨_, List.getElem?_eq_getElem (by rw [HNB.out]; exact hlt2)⟩
            obtain ⟨bv, hbv, hRb⟩ := RC.out.at_ hbl
            obtain ⟨g2, c2, e1, hr⟩ := RB.out.at_ one_len hbv (by decide)
            injection e1 with e1 _ e3
            subst e1
            have X2 := Lib.hid (rangeAt_one (hr _ (H.out.hld (fun x hx => .tail _ (.tail _ (.tail _ (List.mem_append_right _ (HE.out x hx))))))))
            simp only [Nat.mul_one] at X2
            have HBL := Lib.hid hbl
            have HRB : Hid (RSs E d bl bv) := Lib.hid hRb
            have hcnt2 : n + (sb ++ sv4).length + (lvL d bl).length ≤ 1000 := by
              have h1 := flatMap_take_le (fun b => b.flatMap (lvS d)) s.bl (j2 + 1)
              rw [flatMap_take hbl, List.length_append] at h1
              have h2 := RV4.out.1
              simp only [List.length_append] at h2 ⊢
              unfold lvL
              omega
            clear hbl hbv hr hRb e3
            go_wp2_with (first
                | go_skip
                | ((with_reducible refine isLoad ?_); refine ld1A H ?_ (hT := by first | exact kInt | exact kStl | exact kBll | exact kFun | exact kStr | exact kGal))
                | ((with_reducible refine isLoad ?_); refine ld1X X2 ?_ (hT := kStl)))
            go_at_call 33
            refine Calls.mono (HI.out w0 _ _ E bo bf v4 _ (svs ++ (sb ++ sv4)) cur4 bl bv (p + 1) (Lib.hid (H.out.perm rot_perm)) (Lib.hid (fun x hx => .tail _ (HE.out x hx))) R HRB hcnt2 (by omega)) ?_
            rintro _ _ ⟨v5, cur5, sv5, rfl, hA, hR, h2⟩
            replace H := Lib.hid (h2.perm rot_perm.symm)
            have HA := Lib.hid hA
            replace R : Hid (RowV 8 v5 (n + (sb ++ (sv4 ++ sv5)).length) (flat Sv.cells (svs ++ (sb ++ (sv4 ++ sv5)))) cur5) := Lib.hid (by simpa only [List.append_assoc, List.length_append, Nat.add_assoc] using hR)
            clear h2 hA hR hcnt2
            go_wp2_with (first
                | go_skip
                | ((with_reducible refine isLoad ?_); refine ld1A H ?_ (hT := by first | exact kInt | exact kStl | exact kBll | exact kFun | exact kStr | exact kGal))
                | ((with_reducible refine isLoad ?_); refine ld1X X2 ?_ (hT := kStl)))
            go_roundw
            case rel => first | exact ⟨j2 + 1, v5, cur5, sv4 ++ sv5, by go_num, by omega, Lib.hid (by rw [flatMap_take HBL.out]; exact RV4.out.append HA.out), R, H⟩ | exact ⟨_, _, _, _, ⟨j2 + 1, v5, cur5, sv4 ++ sv5, by go_num, by omega, Lib.hid (by rw [flatMap_take HBL.out]; exact RV4.out.append HA.out), R, H⟩, rfl, rfl⟩ | (trace_state; fail)
            case measure => simp [intOf]; omega
          · obtain rfl : j2 = nb := by omega
            replace H := Lib.hid H.out.drop
            go_wp2_with (first
                | go_skip
                | ((with_reducible refine isLoad ?_); refine ld1A H ?_ (hT := by first | exact kInt | exact kStl | exact kBll | exact kFun | exact kStr | exact kGal)))
            go_roundw
            case rel => first | exact ⟨j + 1, v4, cur4, sb ++ sv4, by go_num, by omega, Lib.hid (by rw [lvL_take HS.out, lvS, ← List.append_assoc]; refine HSB.out.append ?_; have h := RV4.out; rw [List.take_of_length_le (by rw [HNB.out]; exact Nat.le_refl _)] at h; exact h), R, H⟩ | exact ⟨_, _, _, _, ⟨j + 1, v4, cur4, sb ++ sv4, by go_num, by omega, Lib.hid (by rw [lvL_take HS.out, lvS, ← List.append_assoc]; refine HSB.out.append ?_; have h := RV4.out; rw [List.take_of_length_le (by rw [HNB.out]; exact Nat.le_refl _)] at h; exact h), R, H⟩, rfl, rfl⟩ | (trace_state; fail)
            case measure => simp [intOf]; omega
      · have k6p : ¬ (vk < 6) := hk6
        have k6d : decide (vk < 6) = false := decide_eq_false k6p
        go_wp2_with (first
            | go_skip
            | ((with_reducible refine isLoad ?_); refine ldX (cs := [.int .i64 vk, .string va, .string vb, .bool (sgO vw), .string (nuO vw), .string (deO vw), .int .i64 vn, .slice Bb nb cb]) X ?_ (hT := rStm8))
            | ((with_reducible refine isLoad ?_); refine ldA H ?_ (hT := rStm8))
            | ((with_reducible refine isStore ?_); refine stA H ?_ (hT := rStm8); clear H; intro _ H)
            | ((with_reducible refine isAlloc ?_); refine alA H ?_ (hz := zStm8); clear H; intro q _ H)
            | ((with_reducible refine isLoad ?_); refine ld1A H ?_ (hT := by first | exact kInt | exact kStl | exact kBll | exact kFun | exact kStr | exact kGal)))
        obtain ⟨sb, hsb, hSB⟩ : ∃ sb : List Sv, sb = sv2 ∧ All2 (RLf E) (lvL (d + 1) (l.take j) ++ (if s.k < 6 then [s] else [])) sb := ⟨_, rfl, by rw [if_neg (by rw [← HK.out]; omega), List.append_nil]; exact RV.out⟩
        rw [← hsb, ← List.append_nil sb] at R
        have HSB := Lib.hid hSB
        clear hSB hsb
        have hcs : n + sb.length + (s.bl.flatMap (fun b => b.flatMap (lvS d))).length ≤ 1000 := by
          have h1 := HSB.out.1
          have h2 := RV.out.1
          have h3 : (lvS (d + 1) s).length = (if s.k < 6 then [s] else []).length + (s.bl.flatMap (fun b => b.flatMap (lvS d))).length := by rw [lvS, List.length_append]
          rw [List.length_append] at h1
          omega
        go_loopw [26] (fun i_ wr => ∃ (j2 : Nat) (v4 : Value) (cur4 : List Value) (sv4 : List Sv), i_ = .int .i64 j2 ∧ j2 ≤ nb ∧ Hid (All2 (RLf E) ((s.bl.take j2).flatMap (fun b => b.flatMap (lvS d))) sv4) ∧ Hid (RowV 8 v4 (n + (sb ++ sv4).length) (flat Sv.cells (svs ++ (sb ++ sv4))) cur4) ∧ Hid (Hp w0 wr ((q, 53, [.int .i64 vk, .string va, .string vb, .bool (sgO vw), .string (nuO vw), .string (deO vw), .int .i64 vn, .slice Bb nb cb]) :: (bo, 56, [v4]) :: (bf, 96, [.func (.func 33) #[] #[.pointer (some ⟨bo, 0, none⟩), .pointer (some ⟨bf, 0, none⟩)]]) :: (rowE v4 53 cur4 ++ m)))) (fun i_ _ => nb - (intOf i_).toNat)
        case atStart => exact ⟨0, _, _, [], rfl, by omega, Lib.hid All2.nil, R, H⟩
        case round =>
          clear H R
          obtain ⟨j2, v4, cur4, sv4, rfl, hj2, RV4, R, H⟩ := hrel
          by_cases hlt2 : j2 < nb
          · obtain ⟨bl, hbl⟩ : ∃ b, s.bl[j2]? = some b := ⟨_, List.getElem?_eq_getElem (by rw [HNB.out]; exact hlt2)⟩
            obtain ⟨bv, hbv, hRb⟩ := RC.out.at_ hbl
            obtain ⟨g2, c2, e1, hr⟩ := RB.out.at_ one_len hbv (by decide)
            injection e1 with e1 _ e3
            subst e1
            have X2 := Lib.hid (rangeAt_one (hr _ (H.out.hld (fun x hx => .tail _ (.tail _ (.tail _ (List.mem_append_right _ (HE.out x hx))))))))
            simp only [Nat.mul_one] at X2
            have HBL := Lib.hid hbl
            have HRB : Hid (RSs E d bl bv) := Lib.hid hRb
            have hcnt2 : n + (sb ++ sv4).length + (lvL d bl).length ≤ 1000 := by
              have h1 := flatMap_take_le (fun b => b.flatMap (lvS d)) s.bl (j2 + 1)
              rw [flatMap_take hbl, List.length_append] at h1
              have h2 := RV4.out.1
              simp only [List.length_append] at h2 ⊢
              unfold lvL
              omega
            clear hbl hbv hr hRb e3
            go_wp2_with (first
                | go_skip
                | ((with_reducible refine isLoad ?_); refine ld1A H ?_ (hT := by first | exact kInt | exact kStl | exact kBll | exact kFun | exact kStr | exact kGal))
                | ((with_reducible refine isLoad ?_); refine ld1X X2 ?_ (hT := kStl)))
            go_at_call 33
            refine Calls.mono (HI.out w0 _ _ E bo bf v4 _ (svs ++ (sb ++ sv4)) cur4 bl bv (p + 1) (Lib.hid (H.out.perm rot_perm)) (Lib.hid (fun x hx => .tail _ (HE.out x hx))) R HRB hcnt2 (by omega)) ?_
            rintro _ _ ⟨v5, cur5, sv5, rfl, hA, hR, h2⟩
            replace H := Lib.hid (h2.perm rot_perm.symm)
            have HA := Lib.hid hA
            replace R : Hid (RowV 8 v5 (n + (sb ++ (sv4 ++ sv5)).length) (flat Sv.cells (svs ++ (sb ++ (sv4 ++ sv5)))) cur5) := Lib.hid (by simpa only [List.append_assoc, List.length_append, Nat.add_assoc] using hR)
            clear h2 hA hR hcnt2
            go_wp2_with (first
                | go_skip
                | ((with_reducible refine isLoad ?_); refine ld1A H ?_ (hT := by first | exact kInt | exact kStl | exact kBll | exact kFun | exact kStr | exact kGal))
                | ((with_reducible refine isLoad ?_); refine ld1X X2 ?_ (hT := kStl)))
            go_roundw
            case rel => first | exact ⟨j2 + 1, v5, cur5, sv4 ++ sv5, by go_num, by omega, Lib.hid (by rw [flatMap_take HBL.out]; exact RV4.out.append HA.out), R, H⟩ | exact ⟨_, _, _, _, ⟨j2 + 1, v5, cur5, sv4 ++ sv5, by go_num, by omega, Lib.hid (by rw [flatMap_take HBL.out]; exact RV4.out.append HA.out), R, H⟩, rfl, rfl⟩ | (trace_state; fail)
            case measure => simp [intOf]; omega
          · obtain rfl : j2 = nb := by omega
            replace H := Lib.hid H.out.drop
            go_wp2_with (first
                | go_skip
                | ((with_reducible refine isLoad ?_); refine ld1A H ?_ (hT := by first | exact kInt | exact kStl | exact kBll | exact kFun | exact kStr | exact kGal)))
            go_roundw
            case rel => first | exact ⟨j + 1, v4, cur4, sb ++ sv4, by go_num, by omega, Lib.hid (by rw [lvL_take HS.out, lvS, ← List.append_assoc]; refine HSB.out.append ?_; have h := RV4.out; rw [List.take_of_length_le (by rw [HNB.out]; exact Nat.le_refl _)] at h; exact h), R, H⟩ | exact ⟨_, _, _, _, ⟨j + 1, v4, cur4, sb ++ sv4, by go_num, by omega, Lib.hid (by rw [lvL_take HS.out, lvS, ← List.append_assoc]; refine HSB.out.append ?_; have h := RV4.out; rw [List.take_of_length_le (by rw [HNB.out]; exact Nat.le_refl _)] at h; exact h), R, H⟩, rfl, rfl⟩ | (trace_state; fail)
            case measure => simp [intOf]; omega
    · obtain rfl : j = nl := by omega
      go_wp2_with (first
          | go_skip)
      go_end0
      have h := RV.out
      rw [List.take_of_length_le (by rw [HLL.out]; exact Nat.le_refl _)] at h
      exact ⟨v2, cur2, sv2, rfl, h, R.out, H.out⟩
end Go.Proofs.YtbphdmnomakeoaaDoor

namespace Go.Proofs.YtbphdmnomakeoaaDoor
open Go.RowKit
set_option linter.unusedVariables false
set_option maxRecDepth 100000

set_option maxHeartbeats 4000000 in
theorem leaves_zero : LeafC 0 := by
  intro w0 w m E bo bf v n svs cur l x p H HE R RS hb hp
  obtain ⟨lvs, hR1, hR2⟩ := RS.out
  obtain rfl : l = [] := by
    cases l with
    | nil => rfl
    | cons s l =>
      obtain ⟨b, _, h⟩ := hR2.at_ (j := 0) (a := s) rfl
      exact h.elim
  obtain rfl : lvs = [] := List.eq_nil_of_length_eq_zero hR2.1.symm
  obtain ⟨B, c, rfl, _⟩ := hR1.shape
  clear hR1 hR2 RS
  simp only [List.length_nil]
  go_enter Tryd.func33, Tryd.ntmps33
  go_wp2_with (first
      | go_skip)
  go_loopw [12] (fun i_ wr => i_ = .int .i64 0 ∧ wr = w) (fun _ _ => 0)
  case atStart => exact ⟨rfl, rfl⟩
  case round =>
    obtain ⟨rfl, rfl⟩ := hrel
    go_wp2_with (first
        | go_skip)
    go_end0
    exact ⟨v, cur, [], rfl, All2.nil, by simpa using R.out, H.out⟩
theorem leaves_all : ∀ d, LeafC d
  | 0 => leaves_zero
  | d + 1 => leaves_of d (leaves_all d)
/-- There are no more leaves than the weight. -/
theorem lvS_le (f : Stm → Int × Int) (g : Stm → List Stm) (h : ∀ s, (f s).2 = 0 → ((g s).length : Int) ≤ (f s).1) : ∀ (l : List Stm) (sum : Int), (stmtsP f l sum).2 = 0 → ((l.flatMap g).length : Int) + sum ≤ (stmtsP f l sum).1
  | [], sum, _ => by simp [stmtsP]
  | s :: r, sum, h0 => by
    unfold stmtsP at h0 ⊢
    by_cases h1 : (f s).2 = 0
    case neg => rw [if_pos h1] at h0; exact absurd h0 h1
    rw [if_neg (by simpa using h1)] at h0 ⊢
    split at h0
    · cases h0
    · rename_i h2
      rw [if_neg h2]
      have := lvS_le f g h r _ h0
      have h3 := h s h1
      rw [List.flatMap_cons, List.length_append]
      push_cast
      omega
theorem lvB_le (f : List Stm → Int × Int) (g : List Stm → List Stm) (n : Int) (h : ∀ b, (f b).2 = 0 → ((g b).length : Int) ≤ (f b).1) : ∀ (l : List (List Stm)) (sum : Int), (blocksP f n l sum).2 = 0 → ((l.flatMap g).length : Int) + sum ≤ (blocksP f n l sum).1
  | [], sum, _ => by simp [blocksP]
  | s :: r, sum, h0 => by
    unfold blocksP at h0 ⊢
    by_cases h1 : (f s).2 = 0
    case neg => rw [if_pos h1] at h0; exact absurd h0 h1
    rw [if_neg (by simpa using h1)] at h0 ⊢
    split at h0
    · cases h0
    · rename_i h2
      rw [if_neg h2]
      have := lvB_le f g n h r _ h0
      have h3 := h s h1
      have h4 : (f s).1 * 1 ≤ (f s).1 * max n 1 := Int.mul_le_mul_of_nonneg_left (by omega) (by omega)
      rw [List.flatMap_cons, List.length_append]
      push_cast
      omega
theorem lv_le : ∀ (d p : Nat) (s : Stm), (wSt d p s).2 = 0 → ((lvS d s).length : Int) ≤ (wSt d p s).1
  | 0, _, _, h => by simp [wSt] at h
  | d + 1, p, s, h => by
    have hb : ∀ b, (wSts (wSt d (p + 1)) (p + 1) b).2 = 0 → ((b.flatMap (lvS d)).length : Int) ≤ (wSts (wSt d (p + 1)) (p + 1) b).1 := fun b h => by
      unfold wSts at h ⊢
      split at h
      · cases h
      · rename_i h2
        rw [if_neg h2]
        have := lvS_le _ (lvS d) (lv_le d (p + 1)) b 0 h
        omega
    unfold wSt at h ⊢
    unfold lvS
    split at h
    · cases h
    · rename_i h1
      rw [if_neg h1]
      split at h
      · rename_i h2
        rw [if_pos h2, if_pos h2]
        unfold plainE at h
        simp only at h
        by_cases h3 : s.bl.length = 0
        · rw [List.eq_nil_of_length_eq_zero h3]
          simp
        · rw [if_pos h3] at h
          cases h
      · rename_i h2
        rw [if_neg h2, if_neg h2]
        split at h
        · rename_i h3
          exact absurd h h3
        · rename_i h3
          rw [if_neg h3]
          have := lvB_le _ (fun b => b.flatMap (lvS d)) s.n hb s.bl 1 h
          rw [List.nil_append]
          exact Int.le_trans (Int.le_of_lt (Int.lt_add_one_of_le (Int.le_refl _))) this
theorem lvL_le {d : Nat} {nm : ByteArray} {l : List Stm} (h : checkE d nm l = 0) : (lvL d l).length ≤ 100 := by
  unfold checkE at h
  split at h
  · have h2 := h
    unfold wSts at h
    rw [if_neg (by decide)] at h
    have h3 := lvS_le _ (lvS d) (lv_le d 1) l 0 h
    have h4 := (stmtsP_bd (wSt_bd d 1) l 0 (by omega) (by omega)).2
    unfold lvL
    omega
  · cases h
end Go.Proofs.YtbphdmnomakeoaaDoor

namespace Go.Proofs.YtbphdmnomakeoaaDoor
open Go.RowKit
set_option linter.unusedVariables false
set_option maxRecDepth 100000

theorem zStl : (Tryd.prog.info? 56).bind (·.zero) = some (.slice none 0 0) := by kernel_rfl
theorem zFun : (Tryd.prog.info? 96).bind (·.zero) = some (.nilFunc) := by kernel_rfl
set_option maxHeartbeats 4000000 in
theorem Leaves_any (d : Nat) (w0 w : World) (m E : Ents) (nm : ByteArray) (l : List Stm) (x : Value) (H : Hid (Hp w0 w m)) (HE : Hid (∀ x ∈ E, x ∈ m)) (R : Hid (RSs E d l x)) (hn : nm.size ≤ maxLen) (hd : d ≤ 99) (hc : Hid (checkE d nm l = 0)) :
    Calls Tryd.prog 18 #[.agg #[.string nm, x]] w fun e w' => ∃ (v : Value) (svs : List Sv) (cur : List Value), e = .returned v ∧ All2 (RLf E) (lvL d l) svs ∧ RowV 8 v svs.length (flat Sv.cells svs) cur ∧ Hp w0 w' (rowE v 53 cur ++ m) := by
  obtain ⟨B, c, rfl⟩ := R.out.shape
  have hmf : ∀ (fn : Fn) (first cap : Array Value) (w : World), (Instr.makeFunc fn first cap).run Tryd.prog w = .ok (.func fn first cap) w := fun _ _ _ _ => rfl
  go_enter Tryd.func18, Tryd.ntmps18
  go_wp2_with (first
      | go_skip
      | ((with_reducible refine isLoad ?_); refine ldA H ?_ (hT := by first | exact rJob | exact rStm8))
      | ((with_reducible refine isLoad ?_); refine ld1A H ?_ (hT := by first | exact kInt | exact kStl | exact kBll | exact kFun | exact kStr | exact kGal))
      | ((with_reducible refine isStore ?_); refine st1A H ?_ (hT := sFun) (v := .func (.func 33) #[] #[.pointer (some ⟨bo, 0, none⟩), .pointer (some ⟨bf, 0, none⟩)]); clear H; intro _ H)
      | ((with_reducible refine isBox ?_); refine bxA H ?_; clear H; intro q _ H)
      | ((with_reducible refine isAlloc ?_); refine alA H ?_ (hz := zStl); clear H; intro bo _ H)
      | ((with_reducible refine isAlloc ?_); refine alA H ?_ (hz := zFun); clear H; intro bf _ H)
      | (go_at_call 20; refine Calls.mono (Check_any d E nm l _ _ hn R (Lib.hid (H.out.hld (fun x hx => .tail _ (.tail _ (.tail _ (HE.out x hx)))))) H.out.tb) ?_; rintro _ _ ⟨rfl, hb⟩; replace H := Lib.hid (H.out.go hb); clear hb; rw [hc.out]))
  go_at_call 33
  refine Calls.mono (leaves_all d w0 _ ((q, 58, _) :: m) E bo bf (.slice none 0 0) 0 [] [] l _ 1 (Lib.hid (H.out.perm (List.Perm.swap _ _ _))) (Lib.hid (fun x hx => .tail _ (HE.out x hx))) (Lib.hid (RowV.nil 8)) R (by have := lvL_le hc.out; omega) (by omega)) ?_
  rintro _ _ ⟨v, cur, svs, rfl, hA, hR, h2⟩
  replace H := Lib.hid h2
  replace R := Lib.hid hR
  have HA := Lib.hid hA
  clear h2 hA hR
  go_wp2_with (first
      | go_skip
      | ((with_reducible refine isLoad ?_); refine ldA H ?_ (hT := by first | exact rJob | exact rStm8))
      | ((with_reducible refine isLoad ?_); refine ld1A H ?_ (hT := by first | exact kInt | exact kStl | exact kBll | exact kFun | exact kStr | exact kGal))
      | ((with_reducible refine isStore ?_); refine st1A H ?_ (hT := sFun) (v := .func (.func 33) #[] #[.pointer (some ⟨bo, 0, none⟩), .pointer (some ⟨bf, 0, none⟩)]); clear H; intro _ H)
      | ((with_reducible refine isBox ?_); refine bxA H ?_; clear H; intro q _ H)
      | ((with_reducible refine isAlloc ?_); refine alA H ?_ (hz := zStl); clear H; intro bo _ H)
      | ((with_reducible refine isAlloc ?_); refine alA H ?_ (hz := zFun); clear H; intro bf _ H)
      | (go_at_call 20; refine Calls.mono (Check_any d E nm l _ _ hn R (Lib.hid (H.out.hld (fun x hx => .tail _ (.tail _ (.tail _ (HE.out x hx)))))) H.out.tb) ?_; rintro _ _ ⟨rfl, hb⟩; replace H := Lib.hid (H.out.go hb); clear hb; rw [hc.out]))
  go_ret
  refine ⟨v, svs, cur, rfl, HA.out, by simpa using R.out, H.out.sub ?_⟩
  exact List.Sublist.cons _ (List.Sublist.cons _ ((List.Sublist.refl _).append (List.Sublist.cons _ (List.Sublist.refl _))))
end Go.Proofs.YtbphdmnomakeoaaDoor

namespace Go.Proofs.YtbphdmnomakeoaaDoor
open Go.RowKit
set_option linter.unusedVariables false
set_option maxRecDepth 100000

/-- A statement of the maker's without blocks. -/
def Leaf (na np ns : Nat) (s : Stm) : Prop :=
  (s.k = 1 ∧ s.a ∈ partN.take np ∧ s.b ∈ slotN.take ns ∧ (s.wd = none ∨ ∃ q : Nat, 4 ≤ q ∧ q ≤ 8 ∧ s.wd = some (ofQ 1 q)) ∧ s.n = 0 ∧ s.bl = []) ∨
  (s.k = 2 ∧ s.a ∈ partN.take np ∧ s.b ∈ armN.take na ∧ s.wd = none ∧ s.n = 0 ∧ s.bl = []) ∨
  (s.k = 3 ∧ s.a ∈ armN.take na ∧ s.b = ⟨#[]⟩ ∧ s.wd = none ∧ s.n = 0 ∧ s.bl = []) ∨
  (s.k = 4 ∧ s.a ∈ partN.take np ∧ s.b = ⟨#[]⟩ ∧ s.wd = none ∧ s.n = 0 ∧ s.bl = []) ∨
  (s.k = 5 ∧ s.a = ⟨#[]⟩ ∧ s.b = ⟨#[]⟩ ∧ s.wd = none ∧ (1 ≤ s.n ∧ s.n ≤ 3) ∧ s.bl = [])
/-- A goal of such a statement. -/
def GoalOk (na np ns : Nat) (g : Gl) : Prop :=
  (g.k = 1 ∧ (0 ≤ g.a ∧ g.a < np) ∧ (0 ≤ g.b ∧ g.b < ns) ∧ g.n = 0) ∨ (g.k = 2 ∧ (0 ≤ g.a ∧ g.a < np) ∧ (0 ≤ g.b ∧ g.b < na) ∧ g.n = 0) ∨
  (g.k = 3 ∧ (0 ≤ g.a ∧ g.a < na) ∧ g.b = -1 ∧ g.n = 0) ∨ (g.k = 4 ∧ (0 ≤ g.a ∧ g.a < np) ∧ g.b = -1 ∧ g.n = 0) ∨ (g.k = 5 ∧ g.a = -1 ∧ g.b = -1 ∧ (1 ≤ g.n ∧ g.n ≤ 3))
def wq (q : Nat) : Option Rat := if q = 0 then none else some (ofQ 1 q)
def E0 : ByteArray := ⟨#[]⟩
theorem bind_put : ∀ (na np ns : Fin 3) (i j : Fin 2) (q : Fin 9), 1 ≤ na.val → 1 ≤ np.val → 1 ≤ ns.val → i.val < np.val → j.val < ns.val → (q.val = 0 ∨ 4 ≤ q.val) →
    plainE 1 (partN.getD i E0) (slotN.getD j E0) (wq q) 0 0 = 0 ∧ (bindP (armN.take na) (partN.take np) ((slotN.take ns).map sltOf) 1 (partN.getD i E0) (slotN.getD j E0) (wq q) 0 0).2 = 0 ∧
    (let g := (bindP (armN.take na) (partN.take np) ((slotN.take ns).map sltOf) 1 (partN.getD i E0) (slotN.getD j E0) (wq q) 0 0).1; g.k = 1 ∧ g.a = i.val ∧ g.b = j.val ∧ g.n = 0) ∧
    (bindP (armN.take na) [] ((slotN.take ns).map sltOf) 1 (partN.getD i E0) (slotN.getD j E0) (wq q) 0 0).2 = 16 := by decide +kernel
theorem bind_hold : ∀ (na np ns : Fin 3) (i j : Fin 2), 1 ≤ na.val → 1 ≤ np.val → 1 ≤ ns.val → i.val < np.val → j.val < na.val →
    plainE 2 (partN.getD i E0) (armN.getD j E0) none 0 0 = 0 ∧ (bindP (armN.take na) (partN.take np) ((slotN.take ns).map sltOf) 2 (partN.getD i E0) (armN.getD j E0) none 0 0).2 = 0 ∧
    (let g := (bindP (armN.take na) (partN.take np) ((slotN.take ns).map sltOf) 2 (partN.getD i E0) (armN.getD j E0) none 0 0).1; g.k = 2 ∧ g.a = i.val ∧ g.b = j.val ∧ g.n = 0) ∧
    (bindP (armN.take na) [] ((slotN.take ns).map sltOf) 2 (partN.getD i E0) (armN.getD j E0) none 0 0).2 = 16 := by decide +kernel
theorem bind_free : ∀ (na np ns : Fin 3) (i : Fin 2), 1 ≤ na.val → 1 ≤ np.val → 1 ≤ ns.val → i.val < na.val →
    plainE 3 (armN.getD i E0) E0 none 0 0 = 0 ∧ (bindP (armN.take na) (partN.take np) ((slotN.take ns).map sltOf) 3 (armN.getD i E0) E0 none 0 0).2 = 0 ∧
    (let g := (bindP (armN.take na) (partN.take np) ((slotN.take ns).map sltOf) 3 (armN.getD i E0) E0 none 0 0).1; g.k = 3 ∧ g.a = i.val ∧ g.b = -1 ∧ g.n = 0) ∧
    (bindP (armN.take na) [] ((slotN.take ns).map sltOf) 3 (armN.getD i E0) E0 none 0 0).2 = 0 := by decide +kernel
theorem bind_see : ∀ (na np ns : Fin 3) (i : Fin 2), 1 ≤ na.val → 1 ≤ np.val → 1 ≤ ns.val → i.val < np.val →
    plainE 4 (partN.getD i E0) E0 none 0 0 = 0 ∧ (bindP (armN.take na) (partN.take np) ((slotN.take ns).map sltOf) 4 (partN.getD i E0) E0 none 0 0).2 = 0 ∧
    (let g := (bindP (armN.take na) (partN.take np) ((slotN.take ns).map sltOf) 4 (partN.getD i E0) E0 none 0 0).1; g.k = 4 ∧ g.a = i.val ∧ g.b = -1 ∧ g.n = 0) ∧
    (bindP (armN.take na) [] ((slotN.take ns).map sltOf) 4 (partN.getD i E0) E0 none 0 0).2 = 16 := by decide +kernel
theorem bind_wait : ∀ (na np ns n : Fin 4), 1 ≤ na.val → 1 ≤ np.val → 1 ≤ ns.val → 1 ≤ n.val →
    plainE 5 E0 E0 none n.val 0 = 0 ∧ (bindP (armN.take na) (partN.take np) ((slotN.take ns).map sltOf) 5 E0 E0 none n.val 0).2 = 0 ∧
    (let g := (bindP (armN.take na) (partN.take np) ((slotN.take ns).map sltOf) 5 E0 E0 none n.val 0).1; g.k = 5 ∧ g.a = -1 ∧ g.b = -1 ∧ g.n = n.val) ∧
    (bindP (armN.take na) [] ((slotN.take ns).map sltOf) 5 E0 E0 none n.val 0).2 = 0 := by decide +kernel
theorem mem_take2 {x : ByteArray} {l : List ByteArray} {n : Nat} (hl : l.length = 2) (h : x ∈ l.take n) : ∃ i : Fin 2, i.val < n ∧ x = l.getD i E0 := by
  obtain ⟨i, hi⟩ := List.mem_iff_getElem?.1 h
  rw [List.getElem?_take] at hi
  split at hi
  · rename_i h1
    have h2 := (List.getElem?_eq_some_iff.1 hi).1
    exact ⟨⟨i, by omega⟩, h1, by simp [List.getD, hi]⟩
  · cases hi
theorem rngI {x y n : Int} (h : x = y) (h1 : 0 ≤ y ∧ y < n) : 0 ≤ x ∧ x < n := h ▸ h1
theorem rngJ {x y : Int} (h : x = y) (h1 : 1 ≤ y ∧ y ≤ 3) : 1 ≤ x ∧ x ≤ 3 := h ▸ h1
theorem leaf_bind {na np ns : Nat} (hna : 1 ≤ na ∧ na ≤ 2) (hnp : 1 ≤ np ∧ np ≤ 2) (hns : 1 ≤ ns ∧ ns ≤ 2) {s : Stm} (h : Leaf na np ns s) :
    plainE s.k s.a s.b s.wd s.n s.bl.length = 0 ∧ (∃ g, bindP (armN.take na) (partN.take np) ((slotN.take ns).map sltOf) s.k s.a s.b s.wd s.n s.bl.length = (g, 0) ∧ g.k = s.k ∧ GoalOk na np ns g) ∧
    (bindP (armN.take na) [] ((slotN.take ns).map sltOf) s.k s.a s.b s.wd s.n s.bl.length).2 = if s.k = 1 ∨ s.k = 2 ∨ s.k = 4 then 16 else 0 := by
  have pr : ∀ {α : Type} {x : α × Int}, x.2 = 0 → x = (x.1, 0) := fun {α x} h => by rw [← h]
  rcases h with ⟨h1, h2, h3, h4, h5, h6⟩ | ⟨h1, h2, h3, h4, h5, h6⟩ | ⟨h1, h2, h3, h4, h5, h6⟩ | ⟨h1, h2, h3, h4, h5, h6⟩ | ⟨h1, h2, h3, h4, h5, h6⟩
  · obtain ⟨i, hi, ei⟩ := mem_take2 rfl h2
    obtain ⟨j, hj, ej⟩ := mem_take2 rfl h3
    obtain ⟨q, hq, eq⟩ : ∃ q : Fin 9, (q.val = 0 ∨ 4 ≤ q.val) ∧ s.wd = wq q := by
      rcases h4 with h4 | ⟨q, h7, h8, h4⟩
      · exact ⟨⟨0, by decide⟩, .inl rfl, h4⟩
      · exact ⟨⟨q, by omega⟩, .inr h7, by rw [h4, wq, if_neg (by show ¬ q = 0; omega)]⟩
    have hb := bind_put ⟨na, by omega⟩ ⟨np, by omega⟩ ⟨ns, by omega⟩ i j q hna.1 hnp.1 hns.1 hi hj hq
    rw [h1, ei, ej, eq, h5, h6]
    obtain ⟨b1, b2, ⟨b3, b4, b5, b6⟩, b7⟩ := hb
    exact ⟨b1, ⟨_, pr b2, b3, .inl ⟨b3, rngI b4 ⟨by omega, by omega⟩, rngI b5 ⟨by omega, by omega⟩, b6⟩⟩, by rw [if_pos (.inl rfl)]; exact b7⟩
  · obtain ⟨i, hi, ei⟩ := mem_take2 rfl h2
    obtain ⟨j, hj, ej⟩ := mem_take2 rfl h3
    have hb := bind_hold ⟨na, by omega⟩ ⟨np, by omega⟩ ⟨ns, by omega⟩ i j hna.1 hnp.1 hns.1 hi hj
    rw [h1, ei, ej, h4, h5, h6]
    obtain ⟨b1, b2, ⟨b3, b4, b5, b6⟩, b7⟩ := hb
    exact ⟨b1, ⟨_, pr b2, b3, .inr (.inl ⟨b3, rngI b4 ⟨by omega, by omega⟩, rngI b5 ⟨by omega, by omega⟩, b6⟩)⟩, by rw [if_pos (.inr (.inl rfl))]; exact b7⟩
  · obtain ⟨i, hi, ei⟩ := mem_take2 rfl h2
    have hb := bind_free ⟨na, by omega⟩ ⟨np, by omega⟩ ⟨ns, by omega⟩ i hna.1 hnp.1 hns.1 hi
    rw [h1, ei, h3, h4, h5, h6]
    obtain ⟨b1, b2, ⟨b3, b4, b5, b6⟩, b7⟩ := hb
    exact ⟨b1, ⟨_, pr b2, b3, .inr (.inr (.inl ⟨b3, rngI b4 ⟨by omega, by omega⟩, b5, b6⟩))⟩, by rw [if_neg (by decide)]; exact b7⟩
  · obtain ⟨i, hi, ei⟩ := mem_take2 rfl h2
    have hb := bind_see ⟨na, by omega⟩ ⟨np, by omega⟩ ⟨ns, by omega⟩ i hna.1 hnp.1 hns.1 hi
    rw [h1, ei, h3, h4, h5, h6]
    obtain ⟨b1, b2, ⟨b3, b4, b5, b6⟩, b7⟩ := hb
    exact ⟨b1, ⟨_, pr b2, b3, .inr (.inr (.inr (.inl ⟨b3, rngI b4 ⟨by omega, by omega⟩, b5, b6⟩)))⟩, by rw [if_pos (.inr (.inr rfl))]; exact b7⟩
  · obtain ⟨n, hn⟩ : ∃ n : Fin 4, s.n = n.val := ⟨⟨s.n.toNat, by omega⟩, by show s.n = (s.n.toNat : Int); omega⟩
    have hb := bind_wait ⟨na, by omega⟩ ⟨np, by omega⟩ ⟨ns, by omega⟩ n hna.1 hnp.1 hns.1 (by omega)
    rw [h1, h2, h3, h4, h6, hn]
    obtain ⟨b1, b2, ⟨b3, b4, b5, b6⟩, b7⟩ := hb
    exact ⟨b1, ⟨_, pr b2, b3, .inr (.inr (.inr (.inr ⟨b3, b4, b5, rngJ b6 ⟨by omega, by omega⟩⟩)))⟩, by rw [if_neg (by decide)]; exact b7⟩
theorem VSt.cases {na np ns d : Nat} {s : Stm} (h : VSt na np ns (d + 1) s) : Leaf na np ns s ∨
    (s.a = ⟨#[]⟩ ∧ s.b = ⟨#[]⟩ ∧ s.wd = none ∧ (∀ b ∈ s.bl, VSs na np ns d b) ∧
      ((s.k = 6 ∧ s.n = 0 ∧ s.bl.length = 1) ∨ (s.k = 7 ∧ (1 ≤ s.n ∧ s.n ≤ 2) ∧ s.bl.length = 1) ∨ (s.k = 8 ∧ s.n = 0 ∧ s.bl.length = 2) ∨ (s.k = 9 ∧ s.n = 0 ∧ s.bl.length = 2))) := by
  unfold VSt at h
  rcases h with h | h | h | h | h | h
  · exact .inl (.inl h)
  · exact .inl (.inr (.inl h))
  · exact .inl (.inr (.inr (.inl h)))
  · exact .inl (.inr (.inr (.inr (.inl h))))
  · exact .inl (.inr (.inr (.inr (.inr h))))
  · exact .inr h
theorem Leaf.k {na np ns : Nat} {s : Stm} (h : Leaf na np ns s) : 1 ≤ s.k ∧ s.k ≤ 5 := by
  rcases h with h | h | h | h | h <;> (rw [h.1]; decide)
theorem Leaf.bl {na np ns : Nat} {s : Stm} (h : Leaf na np ns s) : s.bl = [] := by
  rcases h with h | h | h | h | h
  · exact h.2.2.2.2.2
  · exact h.2.2.2.2.2
  · exact h.2.2.2.2.2
  · exact h.2.2.2.2.2
  · exact h.2.2.2.2.2
/-- The most that a statement weighs. -/
def wMax : Nat → Int
  | 0 => 0
  | d + 1 => 1 + 4 * wMax d
theorem wMax_nn : ∀ d, 0 ≤ wMax d
  | 0 => by simp [wMax]
  | d + 1 => by have := wMax_nn d; unfold wMax; omega
theorem stmtsP_ok {f : Stm → Int × Int} {W : Int} : ∀ (l : List Stm) (sum : Int), (∀ s ∈ l, (f s).2 = 0 ∧ 1 ≤ (f s).1 ∧ (f s).1 ≤ W) → sum + l.length * W ≤ 100 → (stmtsP f l sum).2 = 0 ∧ sum ≤ (stmtsP f l sum).1 ∧ (stmtsP f l sum).1 ≤ sum + l.length * W
  | [], sum, _, _ => ⟨rfl, Int.le_refl _, by simp [stmtsP]⟩
  | s :: r, sum, h, hs => by
    obtain ⟨h1, h2, h3⟩ := h s (.head _)
    have hl : ((s :: r).length : Int) * W = r.length * W + W := by rw [List.length_cons]; push_cast; rw [Int.add_mul]; omega
    have hr : 0 ≤ (r.length : Int) * W := Int.mul_nonneg (by omega) (by omega)
    rw [hl] at hs
    unfold stmtsP
    rw [if_neg (by simpa using h1), if_neg (by omega)]
    obtain ⟨g1, g2, g3⟩ := stmtsP_ok (f := f) (W := W) r (sum + (f s).1) (fun x hx => h x (.tail _ hx)) (by omega)
    exact ⟨g1, by omega, by rw [hl]; omega⟩
theorem blocksP_ok {f : List Stm → Int × Int} {n W : Int} : ∀ (l : List (List Stm)) (sum : Int), (∀ b ∈ l, (f b).2 = 0 ∧ 0 ≤ (f b).1 ∧ (f b).1 * max n 1 ≤ W) → 0 ≤ W → sum + l.length * W ≤ 100 → (blocksP f n l sum).2 = 0 ∧ sum ≤ (blocksP f n l sum).1 ∧ (blocksP f n l sum).1 ≤ sum + l.length * W
  | [], sum, _, _, _ => ⟨rfl, Int.le_refl _, by simp [blocksP]⟩
  | s :: r, sum, h, hW, hs => by
    obtain ⟨h1, h2, h3⟩ := h s (.head _)
    have hl : ((s :: r).length : Int) * W = r.length * W + W := by rw [List.length_cons]; push_cast; rw [Int.add_mul]; omega
    have hr : 0 ≤ (r.length : Int) * W := Int.mul_nonneg (by omega) hW
    have hp : 0 ≤ (f s).1 * max n 1 := Int.mul_nonneg h2 (by omega)
    rw [hl] at hs
    unfold blocksP
    rw [if_neg (by simpa using h1), if_neg (by omega)]
    obtain ⟨g1, g2, g3⟩ := blocksP_ok (f := f) (n := n) (W := W) r (sum + (f s).1 * max n 1) (fun x hx => h x (.tail _ hx)) hW (by omega)
    exact ⟨g1, by omega, by rw [hl]; omega⟩
theorem VSt.w {na np ns : Nat} (hna : 1 ≤ na ∧ na ≤ 2) (hnp : 1 ≤ np ∧ np ≤ 2) (hns : 1 ≤ ns ∧ ns ≤ 2) : ∀ (d p : Nat) (s : Stm), d ≤ 3 → d + p ≤ 4 → VSt na np ns d s → (wSt d p s).2 = 0 ∧ 1 ≤ (wSt d p s).1 ∧ (wSt d p s).1 ≤ wMax d
  | 0, _, _, _, _, h => h.elim
  | d + 1, p, s, hd, hp, h => by
    have hW : wMax d ≤ 5 := by
      rcases (by omega : d = 0 ∨ d = 1 ∨ d = 2) with rfl | rfl | rfl <;> decide
    have h0 := wMax_nn d
    rcases h.cases with hl | ⟨ha, hb, hw, hbl, hk⟩
    · have hk := hl.k
      have := (leaf_bind hna hnp hns hl).1
      unfold wSt
      rw [if_neg (by omega), if_pos (by omega), this]
      exact ⟨rfl, by decide, by unfold wMax; show (1 : Int) ≤ _; omega⟩
    · have hB : ∀ b ∈ s.bl, (wSts (wSt d (p + 1)) (p + 1) b).2 = 0 ∧ 0 ≤ (wSts (wSt d (p + 1)) (p + 1) b).1 ∧ (wSts (wSt d (p + 1)) (p + 1) b).1 ≤ 2 * wMax d := fun b hb' => by
        obtain ⟨⟨g1, g2⟩, g3⟩ := hbl b hb'
        have hm : (b.length : Int) * wMax d ≤ 2 * wMax d := Int.mul_le_mul_of_nonneg_right (by omega) h0
        have := stmtsP_ok (f := wSt d (p + 1)) (W := wMax d) b 0 (fun x hx => VSt.w hna hnp hns d (p + 1) x (by omega) (by omega) (g3 x hx)) (by omega)
        unfold wSts
        rw [if_neg (by omega)]
        exact ⟨this.1, this.2.1, by omega⟩
      have hsh : shapeE s.k s.a s.b s.wd s.n s.bl.length = 0 := by
        rw [ha, hb, hw]
        rcases hk with ⟨k1, k2, k3⟩ | ⟨k1, k2, k3⟩ | ⟨k1, k2, k3⟩ | ⟨k1, k2, k3⟩
        · rw [k1, k2, k3]; decide
        · rw [k1, k3]
          rcases (by omega : s.n = 1 ∨ s.n = 2) with e | e <;> (rw [e]; decide)
        · rw [k1, k2, k3]; decide
        · rw [k1, k2, k3]; decide
      have hk6 : 6 ≤ s.k ∧ s.k ≤ 9 := by rcases hk with ⟨k1, _⟩ | ⟨k1, _⟩ | ⟨k1, _⟩ | ⟨k1, _⟩ <;> omega
      have hP : ∃ W : Int, 0 ≤ W ∧ s.bl.length * W ≤ 4 * wMax d ∧ ∀ b ∈ s.bl, (wSts (wSt d (p + 1)) (p + 1) b).1 * max s.n 1 ≤ W := by
        rcases hk with ⟨k1, k2, k3⟩ | ⟨k1, k2, k3⟩ | ⟨k1, k2, k3⟩ | ⟨k1, k2, k3⟩
        · refine ⟨4 * wMax d, by omega, by rw [k3]; omega, fun b hb' => ?_⟩
          have := hB b hb'
          rw [k2, show max (0 : Int) 1 = 1 from rfl]
          omega
        · refine ⟨4 * wMax d, by omega, by rw [k3]; omega, fun b hb' => ?_⟩
          have := hB b hb'
          rcases (by omega : s.n = 1 ∨ s.n = 2) with e | e
          · rw [e, show max (1 : Int) 1 = 1 from rfl]; omega
          · rw [e, show max (2 : Int) 1 = 2 from rfl]; omega
        · refine ⟨2 * wMax d, by omega, by rw [k3]; omega, fun b hb' => ?_⟩
          have := hB b hb'
          rw [k2, show max (0 : Int) 1 = 1 from rfl]
          omega
        · refine ⟨2 * wMax d, by omega, by rw [k3]; omega, fun b hb' => ?_⟩
          have := hB b hb'
          rw [k2, show max (0 : Int) 1 = 1 from rfl]
          omega
      obtain ⟨W, hW0, hW1, hW2⟩ := hP
      have := blocksP_ok (f := fun b => wSts (wSt d (p + 1)) (p + 1) b) (n := s.n) (W := W) s.bl 1 (fun b hb' => ⟨(hB b hb').1, (hB b hb').2.1, hW2 b hb'⟩) hW0 (by omega)
      unfold wSt
      rw [if_neg (by omega), if_neg (by omega), if_neg (by simpa using hsh)]
      exact ⟨this.1, this.2.1, by unfold wMax; omega⟩
/-- The job is in order, and weighs little. -/
theorem VSs.check {na np ns : Nat} (hna : 1 ≤ na ∧ na ≤ 2) (hnp : 1 ≤ np ∧ np ≤ 2) (hns : 1 ≤ ns ∧ ns ≤ 2) {nm : ByteArray} (hn : nameB nm = true) {l : List Stm} (h : VSs na np ns 3 l) : checkE 3 nm l = 0 ∧ (wSts (wSt 3 1) 1 l).1 ≤ 42 ∧ 0 ≤ (wSts (wSt 3 1) 1 l).1 := by
  obtain ⟨⟨h1, h2⟩, h3⟩ := h
  have hm : (l.length : Int) * 21 ≤ 42 := by omega
  have := stmtsP_ok (f := wSt 3 1) (W := 21) l 0 (fun x hx => VSt.w hna hnp hns 3 1 x (by decide) (by decide) (h3 x hx)) (by omega)
  unfold checkE wSts
  rw [if_pos hn, if_neg (by decide)]
  exact ⟨this.1, by omega, this.2.1⟩
end Go.Proofs.YtbphdmnomakeoaaDoor

namespace Go.Proofs.YtbphdmnomakeoaaDoor
open Go.RowKit
set_option linter.unusedVariables false
set_option maxRecDepth 100000

theorem kStrs : ∃ d, Tryd.prog.underlying 75 = some d ∧ d.isRow = false := ⟨_, Tryd.underlying75, rfl⟩
theorem sStrs : (Tryd.prog.info? 75).map (·.size) = some 1 := by kernel_rfl
theorem iStr : InfoT Tryd.prog 9 1 16 := InfoT.of (z := .string ⟨#[]⟩) (by kernel_rfl) (by kernel_rfl) rfl
def strV (x : ByteArray) : List Value := [.string x]
theorem strV_len (x : ByteArray) : (strV x).length = 1 := rfl
theorem strs_len (us : List ByteArray) : (flat strV us).length = us.length * 1 := by
  induction us with
  | nil => rfl
  | cons x us ih => rw [show flat strV (x :: us) = strV x ++ flat strV us from rfl, List.length_append, ih, strV_len, List.length_cons]; omega
theorem strs_one (us : List ByteArray) : (flat strV us).all (·.oneCell') = true := by
  induction us with
  | nil => rfl
  | cons x us ih => rw [show flat strV (x :: us) = strV x ++ flat strV us from rfl, List.all_append, ih]; rfl
set_option maxHeartbeats 4000000 in
theorem put_any (w0 w : World) (m : Ents) (bp bq : Nat) (v : Value) (n k : Nat) (ws us : List ByteArray) (cur : List Value) (H : Hid (Hp w0 w ((bp, 112, [v]) :: (rowE v 9 cur ++ m)))) (R : Hid (RowV 1 v n (flat strV ws) cur)) (HU : Hid ((bq, 9, flat strV us) ∈ m)) (hk : us.length = k) (h0 : 0 < k) (hb : n + k ≤ 100000) :
    Calls Tryd.prog 42 #[.pointer (some ⟨bp, 0, none⟩), .slice (some ⟨bq, 0, none⟩) k k] w fun e w' => ∃ v' cur', e = .returned (.tuple #[]) ∧ RowV 1 v' (n + k) (flat strV (ws ++ us)) cur' ∧ Hp w0 w' ((bp, 112, [v']) :: (rowE v' 9 cur' ++ m)) := by
  obtain ⟨B, c, rfl, _⟩ := R.out.shape
  have HL : Hid ((flat strV us).length = k * 1) := Lib.hid (hk ▸ strs_len us)
  clear hk
  go_enter Tryd.func42, Tryd.ntmps42
  go_wp2_with (first
      | go_skip
      | ((with_reducible refine isLoad ?_); refine ld1A H ?_ (hT := by first | exact kInt | exact kStl | exact kBll | exact kStr | exact kStrs))
      | ((with_reducible refine isStore ?_); refine st1A H ?_ (hT := by first | exact sStl | exact sStrs); clear H; intro _ H)
      | ((with_reducible refine isApp ?_); refine wpList_appH [(bp, 112, _)] m H R (by rfl) iStr (by decide) Tryd.underlying75 (by rfl) (by rfl) (by rfl) (by rfl) (.tail _ (List.mem_append_right _ HU.out)) HL.out (strs_one us) h0 (by simp only [maxLen]; omega) (by omega) ?_; clear H R; intro v3 cur3 _ R H; obtain ⟨B3, c3, rfl, _⟩ := R.out.shape))
  go_end0
  refine ⟨_, _, rfl, ?_, H.out⟩
  have := R.out
  rwa [← flat_append] at this
end Go.Proofs.YtbphdmnomakeoaaDoor

namespace Go.Proofs.YtbphdmnomakeoaaDoor
open Go.RowKit
set_option linter.unusedVariables false
set_option maxRecDepth 100000

/-- A digit as a text. -/
def dig1 (n : Nat) : ByteArray := ⟨#[(48 + n).toUInt8]⟩
set_option maxHeartbeats 4000000 in
theorem small10 (n : Nat) (w : World) (hn : n < 10) : Calls Tryd.prog 95 #[.int .i64 n] w fun e w' => e = .returned (.string (dig1 n)) ∧ w = w' := by
  have HS : Hid (∀ k : Fin 10, ByteArray.extract ⟨#[48, 49, 50, 51, 52, 53, 54, 55, 56, 57, 97, 98, 99, 100, 101, 102, 103, 104, 105, 106, 107, 108, 109, 110, 111, 112, 113, 114, 115, 116, 117, 118, 119, 120, 121, 122]⟩ k (k + 1) = dig1 k) := Lib.hid (by decide +kernel)
  have hd : decide ((n : Int) < 10) = true := decide_eq_true (by omega)
  go_enter Tryd.func95, Tryd.ntmps95
  go_wp2_with (first
      | go_skip)
  go_ret
  refine ⟨?_, rfl⟩
  have := HS.out ⟨n, hn⟩
  simp only at this
  rw [← this]
  rfl
set_option maxHeartbeats 4000000 in
theorem fmt10i (n : Nat) (w : World) (hn : n < 10) : Calls Tryd.prog 87 #[.int .i64 n, .int .i64 10] w fun e w' => e = .returned (.string (dig1 n)) ∧ w = w' := by
  have hd : decide ((0 : Int) ≤ n) = true := decide_eq_true (by omega)
  have hd2 : decide ((n : Int) < 100) = true := decide_eq_true (by omega)
  go_enter Tryd.func87, Tryd.ntmps87
  go_wp2_with (first
      | go_skip
      | (go_at_call 95; refine (small10 n _ hn).mono ?_; rintro _ _ ⟨rfl, rfl⟩))
  go_ret
  exact ⟨rfl, rfl⟩
set_option maxHeartbeats 4000000 in
theorem fmt10 (n : Nat) (w : World) (hn : n < 10) : Calls Tryd.prog 78 #[.int .i64 n, .int .i64 10] w fun e w' => e = .returned (.string (dig1 n)) ∧ w = w' := by
  go_enter Tryd.func78, Tryd.ntmps78
  go_wp2_with (first
      | go_skip
      | (go_at_call 87; refine (fmt10i n _ hn).mono ?_; rintro _ _ ⟨rfl, rfl⟩))
  go_ret
  exact ⟨rfl, rfl⟩
set_option maxHeartbeats 4000000 in
theorem num10 (n : Nat) (w : World) (hn : n < 10) : Calls Tryd.prog 68 #[.int .i64 n] w fun e w' => e = .returned (.string (dig1 n)) ∧ w = w' := by
  go_enter Tryd.func68, Tryd.ntmps68
  go_wp2_with (first
      | go_skip
      | (go_at_call 78; refine (fmt10 n _ hn).mono ?_; rintro _ _ ⟨rfl, rfl⟩))
  go_ret
  exact ⟨rfl, rfl⟩
end Go.Proofs.YtbphdmnomakeoaaDoor

namespace Go.Proofs.YtbphdmnomakeoaaDoor
open Go.RowKit
set_option linter.unusedVariables false
set_option maxRecDepth 100000

/-- The printer's statement s prints the words us. -/
def PrS (E : Ents) (d : Nat) (s : Stm) (us : List ByteArray) : Prop := ∀ (w0 w : World) (m : Ents) (bp : Nat) (v : Value) (n : Nat) (ws : List ByteArray) (cur : List Value) (sv : Sv), Hid (Hp w0 w ((bp, 112, [v]) :: (rowE v 9 cur ++ m))) → Hid (RowV 1 v n (flat strV ws) cur) → Hid (∀ x ∈ E, x ∈ m) → Hid (RSt E d s sv) → n + us.length ≤ 100000 →
  Calls Tryd.prog 57 #[.pointer (some ⟨bp, 0, none⟩), .agg sv.cells.toArray] w fun e w' => ∃ v' cur', e = .returned (.tuple #[]) ∧ RowV 1 v' (n + us.length) (flat strV (ws ++ us)) cur' ∧ Hp w0 w' ((bp, 112, [v']) :: (rowE v' 9 cur' ++ m))
theorem mid_out {a : Nat × TypeId × List Value} {R m : Ents} {b : Nat × TypeId × List Value} : ((a :: (R ++ m))).Sublist (a :: (R ++ (b :: m))) := List.Sublist.cons_cons _ (List.Sublist.append (List.Sublist.refl _) (List.Sublist.cons _ (List.Sublist.refl _)))
theorem mid_in {a b : Nat × TypeId × List Value} {R m : Ents} : (b :: a :: (R ++ m)).Perm (a :: (R ++ (b :: m))) := (List.Perm.swap _ _ _).trans (.cons _ List.perm_middle.symm)
theorem roll3 {a b g : Nat × TypeId × List Value} {R m : Ents} : (g :: b :: a :: (R ++ m)).Perm (a :: (R ++ (g :: b :: m))) :=
  ((List.Perm.swap a b _).cons g).trans ((List.Perm.swap a g _).trans (.cons _ ((List.perm_middle.symm.cons g).trans List.perm_middle.symm)))
theorem back3 {a b g : Nat × TypeId × List Value} {R m : Ents} {w0 w : World} (h : Hp w0 w (a :: (R ++ (g :: b :: m)))) : Hp w0 w (b :: a :: (R ++ m)) :=
  (h.sub (List.Sublist.cons_cons _ (List.Sublist.append (List.Sublist.refl _) (List.Sublist.cons _ (List.Sublist.refl _))))).perm mid_in.symm
set_option maxHeartbeats 4000000 in
theorem stmt_wait (E : Ents) (d : Nat) (s : Stm) (k : Nat) (hk : s.k = 5) (hn : s.n = k) (hk9 : k < 10) (hbl : s.bl = []) : PrS E d s [⟨#[119, 97, 105, 116]⟩, dig1 k, ⟨#[59]⟩] := by
  intro w0 w m bp v n ws cur sv H R HE RS hb
  simp only [List.length_cons, List.length_nil] at hb ⊢
  obtain ⟨vk, va, vb, vw, vn, Bb, cb, rfl, e1⟩ := RS.out.shape9
  obtain rfl : vk = 5 := e1.trans hk
  obtain rfl : vn = k := by
    cases d with
    | zero => exact RS.out.elim
    | succ d => exact RS.out.2.2.2.2.2.1.trans hn
  simp only [hbl, List.length_nil]
  obtain ⟨B, c, rfl, _⟩ := R.out.shape
  clear hk hn hbl e1 RS
  go_enter Tryd.func57, Tryd.ntmps57
  go_wp2_with (first
      | go_skip
      | ((with_reducible refine isLoad ?_); refine ldA H ?_ (hT := rStm8))
      | ((with_reducible refine isLoad ?_); refine ld1A H ?_ (hT := by first | exact kInt | exact kStl | exact kBll | exact kStr | exact kStrs))
      | ((with_reducible refine isStore ?_); refine st1A H ?_ (hT := by first | exact sStl | exact sStrs); clear H; intro _ H)
      | ((with_reducible refine isBox ?_); refine bxA H ?_; clear H; intro _ _ H)
      | ((with_reducible refine isSlc ?_); first | (refine bsA 9 [.string ⟨#[119, 97, 105, 116]⟩, .string (dig1 k)] 2 H ?_; clear H; intro gz _ H))
      | (go_at_call 68; refine (num10 k _ hk9).mono ?_; rintro _ _ ⟨rfl, rfl⟩))
  go_at_call 42
  have H' := Lib.hid (H.out.perm roll3)
  refine Calls.mono (put_any w0 _ _ bp gz _ _ 2 _ [⟨#[119, 97, 105, 116]⟩, dig1 k] _ H' R (Lib.hid (.head _)) rfl (by decide) (by omega)) ?_
  clear H H' R
  rintro _ _ ⟨v2, cur2, rfl, hR, h2⟩
  obtain ⟨B2, c2, rfl, _⟩ := hR.shape
  have R := Lib.hid hR
  have H := Lib.hid (back3 h2)
  clear hR h2
  go_wp2_with (first
      | go_skip
      | ((with_reducible refine isLoad ?_); refine ldA H ?_ (hT := rStm8))
      | ((with_reducible refine isLoad ?_); refine ld1A H ?_ (hT := by first | exact kInt | exact kStl | exact kBll | exact kStr | exact kStrs))
      | ((with_reducible refine isSlc ?_); first | (refine bsA 9 [.string ⟨#[59]⟩] 1 H ?_; clear H; intro gz _ H)))
  go_at_call 42
  have H' := Lib.hid (H.out.perm roll3)
  refine Calls.mono (put_any w0 _ _ bp gz _ _ 1 _ [⟨#[59]⟩] _ H' R (Lib.hid (.head _)) rfl (by decide) (by omega)) ?_
  clear H H' R
  rintro _ _ ⟨v2, cur2, rfl, hR, h2⟩
  obtain ⟨B2, c2, rfl, _⟩ := hR.shape
  have R := Lib.hid hR
  have H := Lib.hid (back3 h2)
  clear hR h2
  go_wp2_with (first
      | go_skip
      | ((with_reducible refine isLoad ?_); refine ldA H ?_ (hT := rStm8))
      | ((with_reducible refine isLoad ?_); refine ld1A H ?_ (hT := by first | exact kInt | exact kStl | exact kBll | exact kStr | exact kStrs)))
  go_loopw [90] (fun i_ wr => i_ = .int .i64 0 ∧ Hid (Hp w0 wr ((bp, 112, [(.slice B2 (n + 2 + 1) c2)]) :: (rowE (.slice B2 (n + 2 + 1) c2) 9 cur2 ++ m)))) (fun i_ _ => 0)
  case atStart => exact ⟨rfl, Lib.hid H.out.drop⟩
  case round =>
    clear H
    obtain ⟨rfl, H⟩ := hrel
    go_wp2_with (first
        | go_skip)
    go_end0
    refine ⟨_, _, rfl, ?_, H.out⟩
    have := R.out
    rw [List.append_assoc] at this
    exact this
end Go.Proofs.YtbphdmnomakeoaaDoor

namespace Go.Proofs.YtbphdmnomakeoaaDoor
open Go.RowKit
set_option linter.unusedVariables false
set_option maxRecDepth 100000

/-- What a list prints. -/
def blW (f : Stm → List ByteArray) (l : List Stm) : List ByteArray := [⟨#[123]⟩] ++ l.flatMap f ++ [⟨#[125]⟩]
set_option maxHeartbeats 4000000 in
theorem block_any (E : Ents) (d : Nat) (l : List Stm) (f : Stm → List ByteArray) (hS : ∀ (j : Nat) (s : Stm), l[j]? = some s → PrS E d s (f s)) (w0 w : World) (m : Ents) (bp : Nat) (v x : Value) (n : Nat) (ws : List ByteArray) (cur : List Value) (H : Hid (Hp w0 w ((bp, 112, [v]) :: (rowE v 9 cur ++ m)))) (R : Hid (RowV 1 v n (flat strV ws) cur)) (HE : Hid (∀ x ∈ E, x ∈ m)) (RS : Hid (RSs E d l x)) (hb : n + (blW f l).length ≤ 100000) :
    Calls Tryd.prog 43 #[.pointer (some ⟨bp, 0, none⟩), x] w fun e w' => ∃ v' cur', e = .returned (.tuple #[]) ∧ RowV 1 v' (n + (blW f l).length) (flat strV (ws ++ blW f l)) cur' ∧ Hp w0 w' ((bp, 112, [v']) :: (rowE v' 9 cur' ++ m)) := by
  have HSS := Lib.hid hS
  clear hS
  obtain ⟨lvs, hR1, hR2⟩ := RS.out
  have RL := Lib.hid hR1
  have RA := Lib.hid hR2
  obtain ⟨nl, hnl⟩ : ∃ n, lvs.length = n := ⟨_, rfl⟩
  rw [hnl] at RL
  replace RL := Lib.hid RL
  have hle := RL.out.le
  have HLL : Hid (l.length = nl) := Lib.hid (hR2.1.trans hnl)
  obtain ⟨nf, hnf⟩ : ∃ nf, (l.flatMap f).length = nf := ⟨_, rfl⟩
  have e0 : (blW f l).length = nf + 2 := by unfold blW; rw [List.length_append, List.length_append, hnf]; simp; omega
  rw [e0] at hb ⊢
  have HNF := Lib.hid hnf
  clear hR1 hR2 hnl RS e0 hnf
  obtain ⟨B, c, rfl, _⟩ := RL.out.shape
  obtain ⟨B0, c0, rfl, _⟩ := R.out.shape
  go_enter Tryd.func43, Tryd.ntmps43
  go_wp2_with (first
      | go_skip
      | ((with_reducible refine isLoad ?_); refine ld1A H ?_ (hT := by first | exact kInt | exact kStl | exact kBll | exact kStr | exact kStrs))
      | ((with_reducible refine isSlc ?_); first | (refine bsA 9 [.string ⟨#[123]⟩] 1 H ?_; clear H; intro gz _ H)))
  go_at_call 42
  have H' := Lib.hid (H.out.perm mid_in)
  refine Calls.mono (put_any w0 _ _ bp gz _ _ 1 _ [⟨#[123]⟩] _ H' R (Lib.hid (.head _)) rfl (by decide) (by omega)) ?_
  clear H H' R
  rintro _ _ ⟨v2, cur2, rfl, hR, h2⟩
  obtain ⟨B2, c2, rfl, _⟩ := hR.shape
  have R := Lib.hid hR
  have H := Lib.hid (h2.sub mid_out)
  clear hR h2
  go_wp2_with (first
      | go_skip
      | ((with_reducible refine isLoad ?_); refine ld1A H ?_ (hT := by first | exact kInt | exact kStl | exact kBll | exact kStr | exact kStrs)))
  go_loopw [11] (fun i_ wr => ∃ (j k : Nat) (v2 : Value) (cur2 : List Value), i_ = .int .i64 j ∧ j ≤ nl ∧ Hid (((l.take j).flatMap f).length = k) ∧ Hid (RowV 1 v2 (n + 1 + k) (flat strV ((ws ++ [⟨#[123]⟩]) ++ (l.take j).flatMap f)) cur2) ∧ Hid (Hp w0 wr ((bp, 112, [v2]) :: (rowE v2 9 cur2 ++ m)))) (fun i_ _ => nl - (intOf i_).toNat)
  case atStart => exact ⟨0, 0, _, _, rfl, by omega, Lib.hid rfl, by simpa using R, H⟩
  case round =>
    clear H R
    obtain ⟨j, k, v2, cur2, rfl, hj, HK, R, H⟩ := hrel
    by_cases hlt : j < nl
    · obtain ⟨s, hs⟩ : ∃ s, l[j]? = some s := ⟨_, List.getElem?_eq_getElem (by rw [HLL.out]; exact hlt)⟩
      obtain ⟨sv, hsv, hRS⟩ := RA.out.at_ hs
      obtain ⟨g, c', e1, hr⟩ := RL.out.at_ Sv.len hsv (by decide)
      injection e1 with e1 _ e3
      subst e1
      have X := Lib.hid (hr _ (H.out.hld (fun x hx => .tail _ (List.mem_append_right _ (HE.out x hx)))))
      obtain ⟨vk, va, vb, vw, vn, Bb, cb, rfl, -⟩ := hRS.shape9
      obtain ⟨nb, hnb⟩ : ∃ nb, s.bl.length = nb := ⟨_, rfl⟩
      simp only [hnb] at X hRS
      have HRS := Lib.hid hRS
      have HT : Hid ((l.take (j + 1)).flatMap f = (l.take j).flatMap f ++ f s) := Lib.hid (flatMap_take hs)
      have hk2 : k + (f s).length ≤ nf := by
        have h1 := flatMap_take_le f l (j + 1)
        rw [HT.out, List.length_append, HK.out, HNF.out] at h1
        exact h1
      have HP := Lib.hid (HSS.out j s hs)
      clear hs hsv hr e3 hRS hnb
      go_wp2_with (first
          | go_skip
          | ((with_reducible refine isLoad ?_); refine ldX (cs := [.int .i64 vk, .string va, .string vb, .bool (sgO vw), .string (nuO vw), .string (deO vw), .int .i64 vn, .slice Bb nb cb]) X ?_ (hT := rStm8))
          | ((with_reducible refine isLoad ?_); refine ldA H ?_ (hT := rStm8))
          | ((with_reducible refine isStore ?_); refine stA H ?_ (hT := rStm8); clear H; intro _ H)
          | ((with_reducible refine isAlloc ?_); refine alA H ?_ (hz := zStm8); clear H; intro q _ H))
      go_at_call 57
      have H' := Lib.hid (H.out.perm mid_in)
      have hcall := HP.out w0 _ _ bp v2 _ _ cur2 _ H' R (Lib.hid (fun x hx => .tail _ (HE.out x hx))) HRS (by omega)
      clear H H' R HP HRS
      simp only [Sv.cells] at hcall
      refine Calls.mono hcall ?_
      clear hcall
      rintro _ _ ⟨v3, cur3, rfl, hR, h2⟩
      have R := Lib.hid hR
      have H := Lib.hid (h2.sub mid_out)
      clear hR h2
      go_wp2_with (first
          | go_skip)
      go_roundw
      case rel => first | exact ⟨j + 1, k + (f s).length, v3, cur3, rfl, by omega, Lib.hid (by rw [HT.out, List.length_append, HK.out]), by rw [HT.out, ← List.append_assoc, ← Nat.add_assoc]; exact R, H⟩ | exact ⟨_, _, _, _, _, _, _, ⟨j + 1, k + (f s).length, v3, cur3, rfl, by omega, Lib.hid (by rw [HT.out, List.length_append, HK.out]), by rw [HT.out, ← List.append_assoc, ← Nat.add_assoc]; exact R, H⟩, rfl, rfl⟩ | (trace_state; fail)
      case measure => simp [intOf]; omega
    · obtain rfl : j = nl := by omega
      rw [List.take_of_length_le (by rw [HLL.out]; exact Nat.le_refl _)] at HK R
      obtain rfl : k = nf := HK.out.symm.trans HNF.out
      obtain ⟨B3, c3, rfl, _⟩ := R.out.shape
      go_wp2_with (first
          | go_skip
          | ((with_reducible refine isSlc ?_); first | (refine bsA 9 [.string ⟨#[125]⟩] 1 H ?_; clear H; intro gz _ H)))
      go_at_call 42
      have H' := Lib.hid (H.out.perm mid_in)
      refine Calls.mono (put_any w0 _ _ bp gz _ _ 1 _ [⟨#[125]⟩] _ H' R (Lib.hid (.head _)) rfl (by decide) (by omega)) ?_
      clear H H' R
      rintro _ _ ⟨v2, cur2, rfl, hR, h2⟩
      obtain ⟨B2, c2, rfl, _⟩ := hR.shape
      have R := Lib.hid hR
      have H := Lib.hid (h2.sub mid_out)
      clear hR h2
      go_wp2_with (first
          | go_skip)
      go_end0
      refine ⟨_, _, rfl, ?_, H.out⟩
      have := R.out
      rw [show n + (k + 2) = n + 1 + k + 1 by omega]
      rw [show ws ++ [⟨#[123]⟩] ++ l.flatMap f ++ [⟨#[125]⟩] = ws ++ blW f l by unfold blW; simp] at this
      exact this
end Go.Proofs.YtbphdmnomakeoaaDoor
