/- gantkeep4.stmt at the lesser depths. Printed by gen/jobs.py. · gantkeep4.stmts. Printed by gen/jobs.py. · gantkeep4.Job. Printed by gen/jobs.py. · parse.Leaves: the closure. Printed by gen/goal.py. · parse.Leaves: the closure, at all depths. Printed by gen/goal.py. · parse.Leaves. Printed by gen/goal.py. · The maker's jobs are in order: weights, goals. No walk. · a map literal from integers to texts. Turned from WldA's maps to bools. · A map literal beside the list of blocks. No walk. · What the reader of jobs computes; what is read is what is printed. No walk. · The reader of words: its view; take. · the reader of words: keywordWithin, begins, name. Printed by gen/rd.py. · nat.text of a row; nat.Read at digits. Printed by gen/nta.py. · nat.Read at digits; nat.Text. Printed by gen/ntb.py. · rat.Text. Printed by gen/ntc.py. · rat.Read. Printed by gen/ntd.py. · the printer of jobs: put. Printed by gen/weigh.py. · numbers below ten as texts. Printed by gen/weigh.py. · the printer at a wait, at lists. Printed by gen/weigh.py. · the printer at lists. Printed by gen/weigh.py. · parse.Print. Printed by gen/weigh.py. · parsed. Printed by gen/weigh.py. -/
import Derived.Test.YtaiokjhjakdhaaaGreatDoorPb23
import Derived.Maps.OwnOps
import Derived.Deep.DeepCutAuto
import Derived.Test.YtaiokjhjakdhaaaGreatDoorPb21
import Derived.Test.YtaiokjhjakdhaaaGreatDoorPb17
import Derived.Lib.ParseIntB
import Derived.Lib.ItoaNum
import Derived.Test.YtaiokjhjakdhaaaGreatDoorPb12
import Derived.Test.YtaiokjhjakdhaaaGreatDoorPb15
import Derived.Test.YtaiokjhjakdhaaaGreatDoorPb9
import Derived.BigRegion
import Derived.Test.YtaiokjhjakdhaaaGreatDoorPb22
import Derived.Test.YtaiokjhjakdhaaaGreatDoorPb14
namespace Go.Proofs.YtaiokjhjakdhaaaGreatDoor
open Go.RowKit
set_option linter.unusedVariables false
set_option maxRecDepth 100000

set_option maxHeartbeats 4000000 in
theorem stmtJ_inner (na np ns d p : Nat) (hna : 1 ≤ na ∧ na ≤ 2) (hnp : 1 ≤ np ∧ np ≤ 2) (hns : 1 ≤ ns ∧ ns ≤ 2) (hp1 : 1 ≤ p) (hp2 : p ≤ 2) (hC : StsJ na np ns (p + 1) d) : StmJ na np ns p (d + 1) := by
  obtain ⟨hna1, hna2⟩ := hna
  obtain ⟨hnp1, hnp2⟩ := hnp
  obtain ⟨hns1, hns2⟩ := hns
  have HC := Lib.hid hC
  clear hC
  intro w0 w m E0 b S cs H HS WV HE
  obtain ⟨av, pv, sv, rfl, RA, RP, RS⟩ := WV.out
  have la : (armN.take na).length = na := by simp [armN]; omega
  have lp : (partN.take np).length = np := by simp [partN]; omega
  have ls : ((slotN.take ns).map sltOf).length = ns := by simp [slotN]; omega
  rw [la] at RA
  rw [lp] at RP
  rw [ls] at RS
  obtain ⟨Ba, ca, rfl, _⟩ := RA.shape
  obtain ⟨Bp, cp, rfl, _⟩ := RP.shape
  obtain ⟨Bs, cc, rfl, _⟩ := RS.shape
  obtain ⟨ga, rfl⟩ := RA.blk0 (by omega)
  obtain ⟨gp, rfl⟩ := RP.blk0 (by omega)
  obtain ⟨gs, rfl⟩ := RS.blk0 (by omega)
  replace RA := Lib.hid RA
  replace RP := Lib.hid RP
  replace RS := Lib.hid RS
  have LA := Lib.hid la
  have LP := Lib.hid lp
  have LS := Lib.hid ls
  clear la lp ls
  obtain ⟨iP, hxP⟩ : ∃ i : Nat, S.nx np = i := ⟨(S.nx np).toNat, by have := S.nx_bd np (by omega); omega⟩
  have hiP : iP < np := by have := S.nx_bd np (by omega); omega
  have HXP := Lib.hid hxP
  obtain ⟨nmP, hnmP⟩ : ∃ x, (partN.take np)[iP]? = some x := ⟨_, List.getElem?_eq_getElem (by rw [LP.out]; exact hiP)⟩
  obtain ⟨gP, cP, egP, hrP⟩ := RP.out.at_ partC_len hnmP (by decide)
  injection egP with egP _ ecP
  injection egP with egP
  injection egP with egP
  subst egP
  have HRP : Hid (∀ W, Hld E0 W → W.cell? ⟨gp, iP * 12, none⟩ = some (.string nmP)) := Lib.hid fun W hW => rangeAt_cell (hrP W hW)
  have HNP : Hid (nmP ∈ partN.take np) := Lib.hid (by exact List.mem_of_getElem? hnmP)
  clear hrP hnmP hxP ecP
  go_enter Tryz.func23, Tryz.ntmps23
  go_wp2_with (first
      | go_skip
      | ((with_reducible refine isBox ?_); refine bxA H ?_; clear H; intro q _ H)
      | ((with_reducible refine isAlloc ?_); refine alA H ?_ (hz := zStm8); clear H; intro q6 _ H))
  refine wp_region_Y 10 [.c (.pointer (some ⟨q, 2, none⟩)), .c (.slice (some ⟨gp, 0, none⟩) np cp), .c (.pointer (some ⟨b, 0, none⟩)), .c (.pointer (some ⟨q, 2, none⟩)), .c (.slice (some ⟨gp, 0, none⟩) np cp), .c (.int .i64 np), .y, .c (.pointer (some ⟨gp, iP * 12, none⟩)), .c (.pointer (some ⟨gp, iP * 12, none⟩)), .c (.string nmP)] ((q6, 86, [.int .i64 0, .string ⟨#[]⟩, .string ⟨#[]⟩, .bool false, .string ⟨#[]⟩, .string ⟨#[]⟩, .int .i64 0, .slice none 0 0]) :: (q, 35, [.slice (some ⟨ga, 0, none⟩) na ca, .slice none 0 0, .slice (some ⟨gp, 0, none⟩) np cp, .slice (some ⟨gs, 0, none⟩) ns cc, .slice none 0 0, .bool false, .string ⟨#[]⟩, .string ⟨#[]⟩]) :: m) H (by (repeat (first | exact List.Sublist.refl _ | refine List.Sublist.cons_cons _ ?_ | refine List.Sublist.trans ?_ (List.sublist_append_right _ _) | refine List.Sublist.cons _ ?_))) (by kernel_rfl) (by kernel_rfl) (by kernel_rfl) ?_
  simp only [List.take_succ_cons, List.take_zero, List.drop_succ_cons, List.drop_zero]
  refine wpY_c (by rfl) (by (first | exact wanted_none rfl | exact wanted_some rfl rfl)) (by intro W _; first | (go_simp; rfl) | (go_simp; done) | (trace_state; fail)) ?_
  (simp only [Act.put, List.setIfInBounds_toArray, List.set_cons_succ, List.set_cons_zero])
  refine wpY_load1 (by rfl) (by rfl) (by (first | exact wanted_none rfl | exact wanted_some rfl rfl)) (by first | exact kPrl | exact kSll | exact kArl | exact kStr | exact kInt) (by rfl) (by (repeat (first | exact List.Mem.head _ | refine List.Mem.tail _ ?_ | assumption))) (by rfl) ?_
  (simp only [Act.put, List.setIfInBounds_toArray, List.set_cons_succ, List.set_cons_zero])
  refine wpY_c (by rfl) (by (first | exact wanted_none rfl | exact wanted_some rfl rfl)) (by intro W _; first | (go_simp; rfl) | (go_simp; done) | (trace_state; fail)) ?_
  (simp only [Act.put, List.setIfInBounds_toArray, List.set_cons_succ, List.set_cons_zero])
  refine wpY_c (by rfl) (by (first | exact wanted_none rfl | exact wanted_some rfl rfl)) (by intro W _; first | (go_simp; rfl) | (go_simp; done) | (trace_state; fail)) ?_
  (simp only [Act.put, List.setIfInBounds_toArray, List.set_cons_succ, List.set_cons_zero])
  refine wpY_load1 (by rfl) (by rfl) (by (first | exact wanted_none rfl | exact wanted_some rfl rfl)) (by first | exact kPrl | exact kSll | exact kArl | exact kStr | exact kInt) (by rfl) (by (repeat (first | exact List.Mem.head _ | refine List.Mem.tail _ ?_ | assumption))) (by rfl) ?_
  (simp only [Act.put, List.setIfInBounds_toArray, List.set_cons_succ, List.set_cons_zero])
  refine wpY_c (by rfl) (by (first | exact wanted_none rfl | exact wanted_some rfl rfl)) (by intro W _; first | (go_simp; rfl) | (go_simp; done) | (trace_state; fail)) ?_
  (simp only [Act.put, List.setIfInBounds_toArray, List.set_cons_succ, List.set_cons_zero])
  refine wpY_y (by rfl) (by (first | exact wanted_none rfl | exact wanted_some rfl rfl)) (fun G F W HF hG => ?_)
  go_simp
  unfold upY
  refine Calls.mono (nextH_any (m' := ((q6, 86, [.int .i64 0, .string ⟨#[]⟩, .string ⟨#[]⟩, .bool false, .string ⟨#[]⟩, .string ⟨#[]⟩, .int .i64 0, .slice none 0 0]) :: (q, 35, [.slice (some ⟨ga, 0, none⟩) na ca, .slice none 0 0, .slice (some ⟨gp, 0, none⟩) np cp, .slice (some ⟨gs, 0, none⟩) ns cc, .slice none 0 0, .bool false, .string ⟨#[]⟩, .string ⟨#[]⟩]) :: (b, 49, [S.sn.v]) :: m) ++ F) S b np HF HS (Lib.hid (by (repeat (first | apply Upd.head | apply Upd.tail | assumption)))) (by omega) (by omega)) ?_
  rintro _ W2 ⟨rfl, h2⟩
  refine ⟨_, rfl, hG _ _ ((q6, 86, [.int .i64 0, .string ⟨#[]⟩, .string ⟨#[]⟩, .bool false, .string ⟨#[]⟩, .string ⟨#[]⟩, .int .i64 0, .slice none 0 0]) :: (q, 35, [.slice (some ⟨ga, 0, none⟩) na ca, .slice none 0 0, .slice (some ⟨gp, 0, none⟩) np cp, .slice (some ⟨gs, 0, none⟩) ns cc, .slice none 0 0, .bool false, .string ⟨#[]⟩, .string ⟨#[]⟩]) :: (b, 49, [S.sn.v]) :: m) h2 (by (repeat (first | exact List.Sublist.refl _ | refine List.Sublist.cons_cons _ ?_ | refine List.Sublist.trans ?_ (List.sublist_append_right _ _) | refine List.Sublist.cons _ ?_))) ?_⟩
  clear HF hG h2
  rw [HXP.out]
  (simp only [Act.put, List.setIfInBounds_toArray, List.set_cons_succ, List.set_cons_zero])
  refine wpY_c (by rfl) (by (first | exact wanted_none rfl | exact wanted_some rfl rfl)) (by intro W _; first | (go_simp; rfl) | (go_simp; done) | (trace_state; fail)) ?_
  (simp only [Act.put, List.setIfInBounds_toArray, List.set_cons_succ, List.set_cons_zero])
  refine wpY_c (by rfl) (by (first | exact wanted_none rfl | exact wanted_some rfl rfl)) (by intro W _; first | (go_simp; rfl) | (go_simp; done) | (trace_state; fail)) ?_
  (simp only [Act.put, List.setIfInBounds_toArray, List.set_cons_succ, List.set_cons_zero])
  refine wpY_loadX (by rfl) (by rfl) (by (first | exact wanted_none rfl | exact wanted_some rfl rfl)) kStr (by rfl) (by intro W HW; exact HRP.out _ (HW.out.hld (fun x hx => by have := HE.out x hx; simp only [List.mem_cons]; grind))) ?_
  (simp only [Act.put, List.setIfInBounds_toArray, List.set_cons_succ, List.set_cons_zero])
  refine wpY_nil ?_
  clear H
  intro _ H
  go_wp2_with (first
      | go_skip
      | ((with_reducible refine isBox ?_); refine bxA H ?_; clear H; intro q _ H)
      | ((with_reducible refine isAlloc ?_); refine alA H ?_ (hz := zStm8); clear H; intro q6 _ H))
  obtain ⟨k8, hk8⟩ : ∃ r, S.sn.nx 8 = r := ⟨_, rfl⟩
  have hbk8 := S.sn.nx_bd 8 (by omega)
  rw [hk8] at hbk8
  obtain ⟨hbk80, hbk81⟩ := hbk8
  have HVk8 := Lib.hid hk8
  clear hk8
  go_at_call 12
  refine Calls.mono (nextH_any S.sn b 8 H (Lib.hid (HS.out.next)) (Lib.hid (by (repeat (first | apply Upd.head | apply Upd.tail | assumption)))) (by omega) (by omega)) ?_
  rintro _ _ ⟨rfl, h2⟩
  replace H := Lib.hid h2
  clear h2
  rw [HVk8.out]
  have p2p : ¬ (2 < (p : Int)) := by omega
  have p2d : decide (2 < (p : Int)) = false := decide_eq_false p2p
  have hwp : IntKind.i64.wrap ((p : Int) + 1) = (p : Int) + 1 := IntWalk.i64_in _ (by omega)
  rcases (by omega : k8 = 0 ∨ k8 = 1 ∨ k8 = 2 ∨ k8 = 3 ∨ k8 = 4 ∨ k8 = 5 ∨ k8 = 6 ∨ k8 = 7) with rfl | rfl | rfl | rfl | rfl | rfl | rfl | rfl
  · obtain ⟨iS, hxS⟩ : ∃ i : Nat, S.sn.sn.nx ns = i := ⟨(S.sn.sn.nx ns).toNat, by have := S.sn.sn.nx_bd ns (by omega); omega⟩
    have hiS : iS < ns := by have := S.sn.sn.nx_bd ns (by omega); omega
    have HXS := Lib.hid hxS
    obtain ⟨nmS, hnmS⟩ : ∃ x, ((slotN.take ns).map sltOf)[iS]? = some x := ⟨_, List.getElem?_eq_getElem (by rw [LS.out]; exact hiS)⟩
    obtain ⟨gS, cS, egS, hrS⟩ := RS.out.at_ Slt.len hnmS (by decide)
    injection egS with egS _ ecS
    injection egS with egS
    injection egS with egS
    subst egS
    have HRS : Hid (∀ W, Hld E0 W → W.cell? ⟨gs, iS * 14, none⟩ = some (.string nmS.nm)) := Lib.hid fun W hW => rangeAt_cell (hrS W hW)
    have HNS : Hid (nmS.nm ∈ slotN.take ns) := Lib.hid (by obtain ⟨y, hy, rfl⟩ := List.mem_map.1 (List.mem_of_getElem? hnmS); exact hy)
    clear hrS hnmS hxS ecS
    go_wp2_with (first
        | go_skip
        | ((with_reducible refine isAlloc ?_); refine alA H ?_ (hz := zStm8); clear H; intro q9 _ H)
        | ((with_reducible refine isStore ?_); refine stA H ?_ (hT := by first | exact rStm8 | exact rRat); clear H; intro _ H)
        | ((with_reducible refine isLoad ?_); refine ldA H ?_ (hT := by first | exact rStm8 | exact rWks)))
    refine wp_region_Y 13 [.c (.string nmP), .c (.pointer (some ⟨q, 3, none⟩)), .c (.slice (some ⟨gs, 0, none⟩) ns cc), .c (.pointer (some ⟨b, 0, none⟩)), .c (.pointer (some ⟨q, 3, none⟩)), .c (.slice (some ⟨gs, 0, none⟩) ns cc), .c (.int .i64 ns), .y, .c (.pointer (some ⟨gs, iS * 14, none⟩)), .c (.pointer (some ⟨gs, iS * 14, none⟩)), .c (.string nmS.nm), .c (.agg #[.int .i64 1, .string nmP, .string nmS.nm, .bool false, .string ⟨#[]⟩, .string ⟨#[]⟩, .int .i64 0, .slice none 0 0]), .a] ((q6, 86, [.int .i64 0, .string ⟨#[]⟩, .string ⟨#[]⟩, .bool false, .string ⟨#[]⟩, .string ⟨#[]⟩, .int .i64 0, .slice none 0 0]) :: (q, 35, [.slice (some ⟨ga, 0, none⟩) na ca, .slice none 0 0, .slice (some ⟨gp, 0, none⟩) np cp, .slice (some ⟨gs, 0, none⟩) ns cc, .slice none 0 0, .bool false, .string ⟨#[]⟩, .string ⟨#[]⟩]) :: m) H (by (repeat (first | exact List.Sublist.refl _ | refine List.Sublist.cons_cons _ ?_ | refine List.Sublist.trans ?_ (List.sublist_append_right _ _) | refine List.Sublist.cons _ ?_))) (by kernel_rfl) (by kernel_rfl) (by kernel_rfl) ?_
    simp only [List.take_succ_cons, List.take_zero, List.drop_succ_cons, List.drop_zero]
    refine wpY_c (by rfl) (by (first | exact wanted_none rfl | exact wanted_some rfl rfl)) (by intro W _; first | (go_simp; rfl) | (go_simp; done) | (trace_state; fail)) ?_
    (simp only [Act.put, List.setIfInBounds_toArray, List.set_cons_succ, List.set_cons_zero])
    refine wpY_c (by rfl) (by (first | exact wanted_none rfl | exact wanted_some rfl rfl)) (by intro W _; first | (go_simp; rfl) | (go_simp; done) | (trace_state; fail)) ?_
    (simp only [Act.put, List.setIfInBounds_toArray, List.set_cons_succ, List.set_cons_zero])
    refine wpY_load1 (by rfl) (by rfl) (by (first | exact wanted_none rfl | exact wanted_some rfl rfl)) (by first | exact kPrl | exact kSll | exact kArl | exact kStr | exact kInt) (by rfl) (by (repeat (first | exact List.Mem.head _ | refine List.Mem.tail _ ?_ | assumption))) (by rfl) ?_
    (simp only [Act.put, List.setIfInBounds_toArray, List.set_cons_succ, List.set_cons_zero])
    refine wpY_c (by rfl) (by (first | exact wanted_none rfl | exact wanted_some rfl rfl)) (by intro W _; first | (go_simp; rfl) | (go_simp; done) | (trace_state; fail)) ?_
    (simp only [Act.put, List.setIfInBounds_toArray, List.set_cons_succ, List.set_cons_zero])
    refine wpY_c (by rfl) (by (first | exact wanted_none rfl | exact wanted_some rfl rfl)) (by intro W _; first | (go_simp; rfl) | (go_simp; done) | (trace_state; fail)) ?_
    (simp only [Act.put, List.setIfInBounds_toArray, List.set_cons_succ, List.set_cons_zero])
    refine wpY_load1 (by rfl) (by rfl) (by (first | exact wanted_none rfl | exact wanted_some rfl rfl)) (by first | exact kPrl | exact kSll | exact kArl | exact kStr | exact kInt) (by rfl) (by (repeat (first | exact List.Mem.head _ | refine List.Mem.tail _ ?_ | assumption))) (by rfl) ?_
    (simp only [Act.put, List.setIfInBounds_toArray, List.set_cons_succ, List.set_cons_zero])
    refine wpY_c (by rfl) (by (first | exact wanted_none rfl | exact wanted_some rfl rfl)) (by intro W _; first | (go_simp; rfl) | (go_simp; done) | (trace_state; fail)) ?_
    (simp only [Act.put, List.setIfInBounds_toArray, List.set_cons_succ, List.set_cons_zero])
    refine wpY_y (by rfl) (by (first | exact wanted_none rfl | exact wanted_some rfl rfl)) (fun G F W HF hG => ?_)
    go_simp
    unfold upY
    refine Calls.mono (nextH_any (m' := ((q6, 86, [.int .i64 0, .string ⟨#[]⟩, .string ⟨#[]⟩, .bool false, .string ⟨#[]⟩, .string ⟨#[]⟩, .int .i64 0, .slice none 0 0]) :: (q, 35, [.slice (some ⟨ga, 0, none⟩) na ca, .slice none 0 0, .slice (some ⟨gp, 0, none⟩) np cp, .slice (some ⟨gs, 0, none⟩) ns cc, .slice none 0 0, .bool false, .string ⟨#[]⟩, .string ⟨#[]⟩]) :: (b, 49, [S.sn.sn.sn.v]) :: m) ++ F) S.sn.sn b ns HF (Lib.hid (HS.out.next.next)) (Lib.hid (by (repeat (first | apply Upd.head | apply Upd.tail | assumption)))) (by omega) (by omega)) ?_
    rintro _ W2 ⟨rfl, h2⟩
    refine ⟨_, rfl, hG _ _ ((q6, 86, [.int .i64 0, .string ⟨#[]⟩, .string ⟨#[]⟩, .bool false, .string ⟨#[]⟩, .string ⟨#[]⟩, .int .i64 0, .slice none 0 0]) :: (q, 35, [.slice (some ⟨ga, 0, none⟩) na ca, .slice none 0 0, .slice (some ⟨gp, 0, none⟩) np cp, .slice (some ⟨gs, 0, none⟩) ns cc, .slice none 0 0, .bool false, .string ⟨#[]⟩, .string ⟨#[]⟩]) :: (b, 49, [S.sn.sn.sn.v]) :: m) h2 (by (repeat (first | exact List.Sublist.refl _ | refine List.Sublist.cons_cons _ ?_ | refine List.Sublist.trans ?_ (List.sublist_append_right _ _) | refine List.Sublist.cons _ ?_))) ?_⟩
    clear HF hG h2
    rw [HXS.out]
    (simp only [Act.put, List.setIfInBounds_toArray, List.set_cons_succ, List.set_cons_zero])
    refine wpY_c (by rfl) (by (first | exact wanted_none rfl | exact wanted_some rfl rfl)) (by intro W _; first | (go_simp; rfl) | (go_simp; done) | (trace_state; fail)) ?_
    (simp only [Act.put, List.setIfInBounds_toArray, List.set_cons_succ, List.set_cons_zero])
    refine wpY_c (by rfl) (by (first | exact wanted_none rfl | exact wanted_some rfl rfl)) (by intro W _; first | (go_simp; rfl) | (go_simp; done) | (trace_state; fail)) ?_
    (simp only [Act.put, List.setIfInBounds_toArray, List.set_cons_succ, List.set_cons_zero])
    refine wpY_loadX (by rfl) (by rfl) (by (first | exact wanted_none rfl | exact wanted_some rfl rfl)) kStr (by rfl) (by intro W HW; exact HRS.out _ (HW.out.hld (fun x hx => by have := HE.out x hx; simp only [List.mem_cons]; grind))) ?_
    (simp only [Act.put, List.setIfInBounds_toArray, List.set_cons_succ, List.set_cons_zero])
    refine wpY_c (by rfl) (by (first | exact wanted_none rfl | exact wanted_some rfl rfl)) (by intro W _; first | (go_simp; rfl) | (go_simp; done) | (trace_state; fail)) ?_
    (simp only [Act.put, List.setIfInBounds_toArray, List.set_cons_succ, List.set_cons_zero])
    refine wpY_al (by rfl) (by rfl) (by rfl) zStm8 (by (simp only [Value.cells]; rfl)) ?_
    intro q9
    (simp only [Act.put, List.setIfInBounds_toArray, List.set_cons_succ, List.set_cons_zero])
    refine wpY_nil ?_
    clear H
    intro _ H
    go_wp2_with (first
        | go_skip
        | ((with_reducible refine isAlloc ?_); refine alA H ?_ (hz := zStm8); clear H; intro q9 _ H)
        | ((with_reducible refine isStore ?_); refine stA H ?_ (hT := by first | exact rStm8 | exact rRat); clear H; intro _ H)
        | ((with_reducible refine isLoad ?_); refine ldA H ?_ (hT := by first | exact rStm8 | exact rWks)))
    obtain ⟨x3, hx3⟩ : ∃ r, S.sn.sn.sn.nx 3 = r := ⟨_, rfl⟩
    have hbx3 := S.sn.sn.sn.nx_bd 3 (by omega)
    rw [hx3] at hbx3
    obtain ⟨hbx30, hbx31⟩ := hbx3
    have HVx3 := Lib.hid hx3
    clear hx3
    go_at_call 12
    refine Calls.mono (nextH_any S.sn.sn.sn b 3 H (Lib.hid (HS.out.next.next.next)) (Lib.hid (by (repeat (first | apply Upd.head | apply Upd.tail | assumption)))) (by omega) (by omega)) ?_
    rintro _ _ ⟨rfl, h2⟩
    replace H := Lib.hid h2
    clear h2
    rw [HVx3.out]
    by_cases h3 : x3 = 0
    · subst h3
      go_wp2_with (first
          | go_skip
          | ((with_reducible refine isAlloc ?_); refine alA H ?_ (hz := zStm8); clear H; intro q9 _ H)
          | ((with_reducible refine isStore ?_); refine stA H ?_ (hT := by first | exact rStm8 | exact rRat); clear H; intro _ H)
          | ((with_reducible refine isLoad ?_); refine ldA H ?_ (hT := by first | exact rStm8 | exact rWks)))
      obtain ⟨r5, hr5⟩ : ∃ r, S.sn.sn.sn.sn.nx 5 = r := ⟨_, rfl⟩
      have hbr5 := S.sn.sn.sn.sn.nx_bd 5 (by omega)
      rw [hr5] at hbr5
      obtain ⟨hbr50, hbr51⟩ := hbr5
      have HVr5 := Lib.hid hr5
      clear hr5
      obtain ⟨D, hD⟩ : ∃ D : Nat, 4 + r5 = (D : Int) := ⟨(4 + r5).toNat, by omega⟩
      have hD4 : 4 ≤ D := by omega
      have hD8 : D ≤ 8 := by omega
      go_at_call 12
      refine Calls.mono (nextH_any S.sn.sn.sn.sn b 5 H (Lib.hid (HS.out.next.next.next.next)) (Lib.hid (by (repeat (first | apply Upd.head | apply Upd.tail | assumption)))) (by omega) (by omega)) ?_
      rintro _ _ ⟨rfl, h2⟩
      replace H := Lib.hid h2
      clear h2
      rw [HVr5.out]
      go_wp2_with (first
          | go_skip
          | ((with_reducible refine isAlloc ?_); refine alA H ?_ (hz := zStm8); clear H; intro q9 _ H)
          | ((with_reducible refine isStore ?_); refine stA H ?_ (hT := by first | exact rStm8 | exact rRat); clear H; intro _ H)
          | ((with_reducible refine isLoad ?_); refine ldA H ?_ (hT := by first | exact rStm8 | exact rWks)))
      obtain ⟨q0, hq0⟩ : ∃ x, ofQ 1 D = x := ⟨_, rfl⟩
      have HQ := Lib.hid hq0
      go_at_call 13
      refine Calls.mono (ofQ_any 1 D q0 _ (by decide) (by decide) (by omega) (by omega) HQ) ?_
      rintro _ _ ⟨rfl, hb⟩
      replace H := Lib.hid (H.out.go hb)
      clear hb hq0 hD
      go_wp2_with (first
          | go_skip
          | ((with_reducible refine isAlloc ?_); refine alA H ?_ (hz := zStm8); clear H; intro q9 _ H)
          | ((with_reducible refine isStore ?_); refine stA H ?_ (hT := by first | exact rStm8 | exact rRat); clear H; intro _ H)
          | ((with_reducible refine isLoad ?_); refine ldA H ?_ (hT := by first | exact rStm8 | exact rWks)))
      exact bodyPost_ret (results_H H Tryz.results23 (by exact rStm8) rfl (by (repeat (first | exact List.Mem.head _ | refine List.Mem.tail _ ?_ | assumption))) (by rfl)) rfl ⟨⟨1, nmP, nmS.nm, (some q0), 0, .slice none 0 0⟩, .mk 1 nmP nmS.nm (some q0) 0 [], S.sn.sn.sn.sn.sn, [], rfl, (Lib.hid (HS.out.next.next.next.next.next)).out, H.out.sub (by (repeat (first | exact List.Sublist.refl _ | refine List.Sublist.cons_cons _ ?_ | refine List.Sublist.trans ?_ (List.sublist_append_right _ _) | refine List.Sublist.cons _ ?_))), RSt.leaf _ ⟨small_i (x := 1) (by omega), small_i (x := 0) (by omega), pn_sz HNP.out, sn_sz HNS.out, by rw [← HQ.out]; exact ofq_sm D hD4 hD8⟩, .inl ⟨rfl, HNP.out, HNS.out, .inr ⟨D, hD4, hD8, by rw [← HQ.out]; rfl⟩, rfl, rfl⟩⟩
    · have x30p : ¬ (x3 = 0) := h3
      have x30d : decide (x3 = 0) = false := decide_eq_false x30p
      go_wp2_with (first
          | go_skip
          | ((with_reducible refine isAlloc ?_); refine alA H ?_ (hz := zStm8); clear H; intro q9 _ H)
          | ((with_reducible refine isStore ?_); refine stA H ?_ (hT := by first | exact rStm8 | exact rRat); clear H; intro _ H)
          | ((with_reducible refine isLoad ?_); refine ldA H ?_ (hT := by first | exact rStm8 | exact rWks)))
      exact bodyPost_ret (results_H H Tryz.results23 (by exact rStm8) rfl (by (repeat (first | exact List.Mem.head _ | refine List.Mem.tail _ ?_ | assumption))) (by rfl)) rfl ⟨⟨1, nmP, nmS.nm, none, 0, .slice none 0 0⟩, .mk 1 nmP nmS.nm none 0 [], S.sn.sn.sn.sn, [], rfl, (Lib.hid (HS.out.next.next.next.next)).out, H.out.sub (by (repeat (first | exact List.Sublist.refl _ | refine List.Sublist.cons_cons _ ?_ | refine List.Sublist.trans ?_ (List.sublist_append_right _ _) | refine List.Sublist.cons _ ?_))), RSt.leaf _ ⟨small_i (x := 1) (by omega), small_i (x := 0) (by omega), pn_sz HNP.out, sn_sz HNS.out, SmO.none⟩, .inl ⟨rfl, HNP.out, HNS.out, .inl rfl, rfl, rfl⟩⟩
  · obtain ⟨iS, hxS⟩ : ∃ i : Nat, S.sn.sn.nx ns = i := ⟨(S.sn.sn.nx ns).toNat, by have := S.sn.sn.nx_bd ns (by omega); omega⟩
    have hiS : iS < ns := by have := S.sn.sn.nx_bd ns (by omega); omega
    have HXS := Lib.hid hxS
    obtain ⟨nmS, hnmS⟩ : ∃ x, ((slotN.take ns).map sltOf)[iS]? = some x := ⟨_, List.getElem?_eq_getElem (by rw [LS.out]; exact hiS)⟩
    obtain ⟨gS, cS, egS, hrS⟩ := RS.out.at_ Slt.len hnmS (by decide)
    injection egS with egS _ ecS
    injection egS with egS
    injection egS with egS
    subst egS
    have HRS : Hid (∀ W, Hld E0 W → W.cell? ⟨gs, iS * 14, none⟩ = some (.string nmS.nm)) := Lib.hid fun W hW => rangeAt_cell (hrS W hW)
    have HNS : Hid (nmS.nm ∈ slotN.take ns) := Lib.hid (by obtain ⟨y, hy, rfl⟩ := List.mem_map.1 (List.mem_of_getElem? hnmS); exact hy)
    clear hrS hnmS hxS ecS
    go_wp2_with (first
        | go_skip
        | ((with_reducible refine isAlloc ?_); refine alA H ?_ (hz := zStm8); clear H; intro q9 _ H)
        | ((with_reducible refine isStore ?_); refine stA H ?_ (hT := by first | exact rStm8 | exact rRat); clear H; intro _ H)
        | ((with_reducible refine isLoad ?_); refine ldA H ?_ (hT := by first | exact rStm8 | exact rWks)))
    refine wp_region_Y 13 [.c (.string nmP), .c (.pointer (some ⟨q, 3, none⟩)), .c (.slice (some ⟨gs, 0, none⟩) ns cc), .c (.pointer (some ⟨b, 0, none⟩)), .c (.pointer (some ⟨q, 3, none⟩)), .c (.slice (some ⟨gs, 0, none⟩) ns cc), .c (.int .i64 ns), .y, .c (.pointer (some ⟨gs, iS * 14, none⟩)), .c (.pointer (some ⟨gs, iS * 14, none⟩)), .c (.string nmS.nm), .c (.agg #[.int .i64 1, .string nmP, .string nmS.nm, .bool false, .string ⟨#[]⟩, .string ⟨#[]⟩, .int .i64 0, .slice none 0 0]), .a] ((q6, 86, [.int .i64 0, .string ⟨#[]⟩, .string ⟨#[]⟩, .bool false, .string ⟨#[]⟩, .string ⟨#[]⟩, .int .i64 0, .slice none 0 0]) :: (q, 35, [.slice (some ⟨ga, 0, none⟩) na ca, .slice none 0 0, .slice (some ⟨gp, 0, none⟩) np cp, .slice (some ⟨gs, 0, none⟩) ns cc, .slice none 0 0, .bool false, .string ⟨#[]⟩, .string ⟨#[]⟩]) :: m) H (by (repeat (first | exact List.Sublist.refl _ | refine List.Sublist.cons_cons _ ?_ | refine List.Sublist.trans ?_ (List.sublist_append_right _ _) | refine List.Sublist.cons _ ?_))) (by kernel_rfl) (by kernel_rfl) (by kernel_rfl) ?_
    simp only [List.take_succ_cons, List.take_zero, List.drop_succ_cons, List.drop_zero]
    refine wpY_c (by rfl) (by (first | exact wanted_none rfl | exact wanted_some rfl rfl)) (by intro W _; first | (go_simp; rfl) | (go_simp; done) | (trace_state; fail)) ?_
    (simp only [Act.put, List.setIfInBounds_toArray, List.set_cons_succ, List.set_cons_zero])
    refine wpY_c (by rfl) (by (first | exact wanted_none rfl | exact wanted_some rfl rfl)) (by intro W _; first | (go_simp; rfl) | (go_simp; done) | (trace_state; fail)) ?_
    (simp only [Act.put, List.setIfInBounds_toArray, List.set_cons_succ, List.set_cons_zero])
    refine wpY_load1 (by rfl) (by rfl) (by (first | exact wanted_none rfl | exact wanted_some rfl rfl)) (by first | exact kPrl | exact kSll | exact kArl | exact kStr | exact kInt) (by rfl) (by (repeat (first | exact List.Mem.head _ | refine List.Mem.tail _ ?_ | assumption))) (by rfl) ?_
    (simp only [Act.put, List.setIfInBounds_toArray, List.set_cons_succ, List.set_cons_zero])
    refine wpY_c (by rfl) (by (first | exact wanted_none rfl | exact wanted_some rfl rfl)) (by intro W _; first | (go_simp; rfl) | (go_simp; done) | (trace_state; fail)) ?_
    (simp only [Act.put, List.setIfInBounds_toArray, List.set_cons_succ, List.set_cons_zero])
    refine wpY_c (by rfl) (by (first | exact wanted_none rfl | exact wanted_some rfl rfl)) (by intro W _; first | (go_simp; rfl) | (go_simp; done) | (trace_state; fail)) ?_
    (simp only [Act.put, List.setIfInBounds_toArray, List.set_cons_succ, List.set_cons_zero])
    refine wpY_load1 (by rfl) (by rfl) (by (first | exact wanted_none rfl | exact wanted_some rfl rfl)) (by first | exact kPrl | exact kSll | exact kArl | exact kStr | exact kInt) (by rfl) (by (repeat (first | exact List.Mem.head _ | refine List.Mem.tail _ ?_ | assumption))) (by rfl) ?_
    (simp only [Act.put, List.setIfInBounds_toArray, List.set_cons_succ, List.set_cons_zero])
    refine wpY_c (by rfl) (by (first | exact wanted_none rfl | exact wanted_some rfl rfl)) (by intro W _; first | (go_simp; rfl) | (go_simp; done) | (trace_state; fail)) ?_
    (simp only [Act.put, List.setIfInBounds_toArray, List.set_cons_succ, List.set_cons_zero])
    refine wpY_y (by rfl) (by (first | exact wanted_none rfl | exact wanted_some rfl rfl)) (fun G F W HF hG => ?_)
    go_simp
    unfold upY
    refine Calls.mono (nextH_any (m' := ((q6, 86, [.int .i64 0, .string ⟨#[]⟩, .string ⟨#[]⟩, .bool false, .string ⟨#[]⟩, .string ⟨#[]⟩, .int .i64 0, .slice none 0 0]) :: (q, 35, [.slice (some ⟨ga, 0, none⟩) na ca, .slice none 0 0, .slice (some ⟨gp, 0, none⟩) np cp, .slice (some ⟨gs, 0, none⟩) ns cc, .slice none 0 0, .bool false, .string ⟨#[]⟩, .string ⟨#[]⟩]) :: (b, 49, [S.sn.sn.sn.v]) :: m) ++ F) S.sn.sn b ns HF (Lib.hid (HS.out.next.next)) (Lib.hid (by (repeat (first | apply Upd.head | apply Upd.tail | assumption)))) (by omega) (by omega)) ?_
    rintro _ W2 ⟨rfl, h2⟩
    refine ⟨_, rfl, hG _ _ ((q6, 86, [.int .i64 0, .string ⟨#[]⟩, .string ⟨#[]⟩, .bool false, .string ⟨#[]⟩, .string ⟨#[]⟩, .int .i64 0, .slice none 0 0]) :: (q, 35, [.slice (some ⟨ga, 0, none⟩) na ca, .slice none 0 0, .slice (some ⟨gp, 0, none⟩) np cp, .slice (some ⟨gs, 0, none⟩) ns cc, .slice none 0 0, .bool false, .string ⟨#[]⟩, .string ⟨#[]⟩]) :: (b, 49, [S.sn.sn.sn.v]) :: m) h2 (by (repeat (first | exact List.Sublist.refl _ | refine List.Sublist.cons_cons _ ?_ | refine List.Sublist.trans ?_ (List.sublist_append_right _ _) | refine List.Sublist.cons _ ?_))) ?_⟩
    clear HF hG h2
    rw [HXS.out]
    (simp only [Act.put, List.setIfInBounds_toArray, List.set_cons_succ, List.set_cons_zero])
    refine wpY_c (by rfl) (by (first | exact wanted_none rfl | exact wanted_some rfl rfl)) (by intro W _; first | (go_simp; rfl) | (go_simp; done) | (trace_state; fail)) ?_
    (simp only [Act.put, List.setIfInBounds_toArray, List.set_cons_succ, List.set_cons_zero])
    refine wpY_c (by rfl) (by (first | exact wanted_none rfl | exact wanted_some rfl rfl)) (by intro W _; first | (go_simp; rfl) | (go_simp; done) | (trace_state; fail)) ?_
    (simp only [Act.put, List.setIfInBounds_toArray, List.set_cons_succ, List.set_cons_zero])
    refine wpY_loadX (by rfl) (by rfl) (by (first | exact wanted_none rfl | exact wanted_some rfl rfl)) kStr (by rfl) (by intro W HW; exact HRS.out _ (HW.out.hld (fun x hx => by have := HE.out x hx; simp only [List.mem_cons]; grind))) ?_
    (simp only [Act.put, List.setIfInBounds_toArray, List.set_cons_succ, List.set_cons_zero])
    refine wpY_c (by rfl) (by (first | exact wanted_none rfl | exact wanted_some rfl rfl)) (by intro W _; first | (go_simp; rfl) | (go_simp; done) | (trace_state; fail)) ?_
    (simp only [Act.put, List.setIfInBounds_toArray, List.set_cons_succ, List.set_cons_zero])
    refine wpY_al (by rfl) (by rfl) (by rfl) zStm8 (by (simp only [Value.cells]; rfl)) ?_
    intro q9
    (simp only [Act.put, List.setIfInBounds_toArray, List.set_cons_succ, List.set_cons_zero])
    refine wpY_nil ?_
    clear H
    intro _ H
    go_wp2_with (first
        | go_skip
        | ((with_reducible refine isAlloc ?_); refine alA H ?_ (hz := zStm8); clear H; intro q9 _ H)
        | ((with_reducible refine isStore ?_); refine stA H ?_ (hT := by first | exact rStm8 | exact rRat); clear H; intro _ H)
        | ((with_reducible refine isLoad ?_); refine ldA H ?_ (hT := by first | exact rStm8 | exact rWks)))
    obtain ⟨x3, hx3⟩ : ∃ r, S.sn.sn.sn.nx 3 = r := ⟨_, rfl⟩
    have hbx3 := S.sn.sn.sn.nx_bd 3 (by omega)
    rw [hx3] at hbx3
    obtain ⟨hbx30, hbx31⟩ := hbx3
    have HVx3 := Lib.hid hx3
    clear hx3
    go_at_call 12
    refine Calls.mono (nextH_any S.sn.sn.sn b 3 H (Lib.hid (HS.out.next.next.next)) (Lib.hid (by (repeat (first | apply Upd.head | apply Upd.tail | assumption)))) (by omega) (by omega)) ?_
    rintro _ _ ⟨rfl, h2⟩
    replace H := Lib.hid h2
    clear h2
    rw [HVx3.out]
    by_cases h3 : x3 = 0
    · subst h3
      go_wp2_with (first
          | go_skip
          | ((with_reducible refine isAlloc ?_); refine alA H ?_ (hz := zStm8); clear H; intro q9 _ H)
          | ((with_reducible refine isStore ?_); refine stA H ?_ (hT := by first | exact rStm8 | exact rRat); clear H; intro _ H)
          | ((with_reducible refine isLoad ?_); refine ldA H ?_ (hT := by first | exact rStm8 | exact rWks)))
      obtain ⟨r5, hr5⟩ : ∃ r, S.sn.sn.sn.sn.nx 5 = r := ⟨_, rfl⟩
      have hbr5 := S.sn.sn.sn.sn.nx_bd 5 (by omega)
      rw [hr5] at hbr5
      obtain ⟨hbr50, hbr51⟩ := hbr5
      have HVr5 := Lib.hid hr5
      clear hr5
      obtain ⟨D, hD⟩ : ∃ D : Nat, 4 + r5 = (D : Int) := ⟨(4 + r5).toNat, by omega⟩
      have hD4 : 4 ≤ D := by omega
      have hD8 : D ≤ 8 := by omega
      go_at_call 12
      refine Calls.mono (nextH_any S.sn.sn.sn.sn b 5 H (Lib.hid (HS.out.next.next.next.next)) (Lib.hid (by (repeat (first | apply Upd.head | apply Upd.tail | assumption)))) (by omega) (by omega)) ?_
      rintro _ _ ⟨rfl, h2⟩
      replace H := Lib.hid h2
      clear h2
      rw [HVr5.out]
      go_wp2_with (first
          | go_skip
          | ((with_reducible refine isAlloc ?_); refine alA H ?_ (hz := zStm8); clear H; intro q9 _ H)
          | ((with_reducible refine isStore ?_); refine stA H ?_ (hT := by first | exact rStm8 | exact rRat); clear H; intro _ H)
          | ((with_reducible refine isLoad ?_); refine ldA H ?_ (hT := by first | exact rStm8 | exact rWks)))
      obtain ⟨q0, hq0⟩ : ∃ x, ofQ 1 D = x := ⟨_, rfl⟩
      have HQ := Lib.hid hq0
      go_at_call 13
      refine Calls.mono (ofQ_any 1 D q0 _ (by decide) (by decide) (by omega) (by omega) HQ) ?_
      rintro _ _ ⟨rfl, hb⟩
      replace H := Lib.hid (H.out.go hb)
      clear hb hq0 hD
      go_wp2_with (first
          | go_skip
          | ((with_reducible refine isAlloc ?_); refine alA H ?_ (hz := zStm8); clear H; intro q9 _ H)
          | ((with_reducible refine isStore ?_); refine stA H ?_ (hT := by first | exact rStm8 | exact rRat); clear H; intro _ H)
          | ((with_reducible refine isLoad ?_); refine ldA H ?_ (hT := by first | exact rStm8 | exact rWks)))
      exact bodyPost_ret (results_H H Tryz.results23 (by exact rStm8) rfl (by (repeat (first | exact List.Mem.head _ | refine List.Mem.tail _ ?_ | assumption))) (by rfl)) rfl ⟨⟨1, nmP, nmS.nm, (some q0), 0, .slice none 0 0⟩, .mk 1 nmP nmS.nm (some q0) 0 [], S.sn.sn.sn.sn.sn, [], rfl, (Lib.hid (HS.out.next.next.next.next.next)).out, H.out.sub (by (repeat (first | exact List.Sublist.refl _ | refine List.Sublist.cons_cons _ ?_ | refine List.Sublist.trans ?_ (List.sublist_append_right _ _) | refine List.Sublist.cons _ ?_))), RSt.leaf _ ⟨small_i (x := 1) (by omega), small_i (x := 0) (by omega), pn_sz HNP.out, sn_sz HNS.out, by rw [← HQ.out]; exact ofq_sm D hD4 hD8⟩, .inl ⟨rfl, HNP.out, HNS.out, .inr ⟨D, hD4, hD8, by rw [← HQ.out]; rfl⟩, rfl, rfl⟩⟩
    · have x30p : ¬ (x3 = 0) := h3
      have x30d : decide (x3 = 0) = false := decide_eq_false x30p
      go_wp2_with (first
          | go_skip
          | ((with_reducible refine isAlloc ?_); refine alA H ?_ (hz := zStm8); clear H; intro q9 _ H)
          | ((with_reducible refine isStore ?_); refine stA H ?_ (hT := by first | exact rStm8 | exact rRat); clear H; intro _ H)
          | ((with_reducible refine isLoad ?_); refine ldA H ?_ (hT := by first | exact rStm8 | exact rWks)))
      exact bodyPost_ret (results_H H Tryz.results23 (by exact rStm8) rfl (by (repeat (first | exact List.Mem.head _ | refine List.Mem.tail _ ?_ | assumption))) (by rfl)) rfl ⟨⟨1, nmP, nmS.nm, none, 0, .slice none 0 0⟩, .mk 1 nmP nmS.nm none 0 [], S.sn.sn.sn.sn, [], rfl, (Lib.hid (HS.out.next.next.next.next)).out, H.out.sub (by (repeat (first | exact List.Sublist.refl _ | refine List.Sublist.cons_cons _ ?_ | refine List.Sublist.trans ?_ (List.sublist_append_right _ _) | refine List.Sublist.cons _ ?_))), RSt.leaf _ ⟨small_i (x := 1) (by omega), small_i (x := 0) (by omega), pn_sz HNP.out, sn_sz HNS.out, SmO.none⟩, .inl ⟨rfl, HNP.out, HNS.out, .inl rfl, rfl, rfl⟩⟩
  · obtain ⟨iA, hxA⟩ : ∃ i : Nat, S.sn.sn.nx na = i := ⟨(S.sn.sn.nx na).toNat, by have := S.sn.sn.nx_bd na (by omega); omega⟩
    have hiA : iA < na := by have := S.sn.sn.nx_bd na (by omega); omega
    have HXA := Lib.hid hxA
    obtain ⟨nmA, hnmA⟩ : ∃ x, (armN.take na)[iA]? = some x := ⟨_, List.getElem?_eq_getElem (by rw [LA.out]; exact hiA)⟩
    obtain ⟨gA, cA, egA, hrA⟩ := RA.out.at_ armC_len hnmA (by decide)
    injection egA with egA _ ecA
    injection egA with egA
    injection egA with egA
    subst egA
    have HRA : Hid (∀ W, Hld E0 W → W.cell? ⟨ga, iA * 12, none⟩ = some (.string nmA)) := Lib.hid fun W hW => rangeAt_cell (hrA W hW)
    have HNA : Hid (nmA ∈ armN.take na) := Lib.hid (by exact List.mem_of_getElem? hnmA)
    clear hrA hnmA hxA ecA
    go_wp2_with (first
        | go_skip
        | ((with_reducible refine isAlloc ?_); refine alA H ?_ (hz := zStm8); clear H; intro q9 _ H)
        | ((with_reducible refine isStore ?_); refine stA H ?_ (hT := by first | exact rStm8 | exact rRat); clear H; intro _ H)
        | ((with_reducible refine isLoad ?_); refine ldA H ?_ (hT := by first | exact rStm8 | exact rWks)))
    refine wp_region_Y 12 [.c (.string nmP), .c (.pointer (some ⟨q, 0, none⟩)), .c (.slice (some ⟨ga, 0, none⟩) na ca), .c (.pointer (some ⟨b, 0, none⟩)), .c (.pointer (some ⟨q, 0, none⟩)), .c (.slice (some ⟨ga, 0, none⟩) na ca), .c (.int .i64 na), .y, .c (.pointer (some ⟨ga, iA * 12, none⟩)), .c (.pointer (some ⟨ga, iA * 12, none⟩)), .c (.string nmA), .c (.agg #[.int .i64 2, .string nmP, .string nmA, .bool false, .string ⟨#[]⟩, .string ⟨#[]⟩, .int .i64 0, .slice none 0 0])] ((q6, 86, [.int .i64 0, .string ⟨#[]⟩, .string ⟨#[]⟩, .bool false, .string ⟨#[]⟩, .string ⟨#[]⟩, .int .i64 0, .slice none 0 0]) :: (q, 35, [.slice (some ⟨ga, 0, none⟩) na ca, .slice none 0 0, .slice (some ⟨gp, 0, none⟩) np cp, .slice (some ⟨gs, 0, none⟩) ns cc, .slice none 0 0, .bool false, .string ⟨#[]⟩, .string ⟨#[]⟩]) :: m) H (by (repeat (first | exact List.Sublist.refl _ | refine List.Sublist.cons_cons _ ?_ | refine List.Sublist.trans ?_ (List.sublist_append_right _ _) | refine List.Sublist.cons _ ?_))) (by kernel_rfl) (by kernel_rfl) (by kernel_rfl) ?_
    simp only [List.take_succ_cons, List.take_zero, List.drop_succ_cons, List.drop_zero]
    refine wpY_c (by rfl) (by (first | exact wanted_none rfl | exact wanted_some rfl rfl)) (by intro W _; first | (go_simp; rfl) | (go_simp; done) | (trace_state; fail)) ?_
    (simp only [Act.put, List.setIfInBounds_toArray, List.set_cons_succ, List.set_cons_zero])
    refine wpY_c (by rfl) (by (first | exact wanted_none rfl | exact wanted_some rfl rfl)) (by intro W _; first | (go_simp; rfl) | (go_simp; done) | (trace_state; fail)) ?_
    (simp only [Act.put, List.setIfInBounds_toArray, List.set_cons_succ, List.set_cons_zero])
    refine wpY_load1 (by rfl) (by rfl) (by (first | exact wanted_none rfl | exact wanted_some rfl rfl)) (by first | exact kPrl | exact kSll | exact kArl | exact kStr | exact kInt) (by rfl) (by (repeat (first | exact List.Mem.head _ | refine List.Mem.tail _ ?_ | assumption))) (by rfl) ?_
    (simp only [Act.put, List.setIfInBounds_toArray, List.set_cons_succ, List.set_cons_zero])
    refine wpY_c (by rfl) (by (first | exact wanted_none rfl | exact wanted_some rfl rfl)) (by intro W _; first | (go_simp; rfl) | (go_simp; done) | (trace_state; fail)) ?_
    (simp only [Act.put, List.setIfInBounds_toArray, List.set_cons_succ, List.set_cons_zero])
    refine wpY_c (by rfl) (by (first | exact wanted_none rfl | exact wanted_some rfl rfl)) (by intro W _; first | (go_simp; rfl) | (go_simp; done) | (trace_state; fail)) ?_
    (simp only [Act.put, List.setIfInBounds_toArray, List.set_cons_succ, List.set_cons_zero])
    refine wpY_load1 (by rfl) (by rfl) (by (first | exact wanted_none rfl | exact wanted_some rfl rfl)) (by first | exact kPrl | exact kSll | exact kArl | exact kStr | exact kInt) (by rfl) (by (repeat (first | exact List.Mem.head _ | refine List.Mem.tail _ ?_ | assumption))) (by rfl) ?_
    (simp only [Act.put, List.setIfInBounds_toArray, List.set_cons_succ, List.set_cons_zero])
    refine wpY_c (by rfl) (by (first | exact wanted_none rfl | exact wanted_some rfl rfl)) (by intro W _; first | (go_simp; rfl) | (go_simp; done) | (trace_state; fail)) ?_
    (simp only [Act.put, List.setIfInBounds_toArray, List.set_cons_succ, List.set_cons_zero])
    refine wpY_y (by rfl) (by (first | exact wanted_none rfl | exact wanted_some rfl rfl)) (fun G F W HF hG => ?_)
    go_simp
    unfold upY
    refine Calls.mono (nextH_any (m' := ((q6, 86, [.int .i64 0, .string ⟨#[]⟩, .string ⟨#[]⟩, .bool false, .string ⟨#[]⟩, .string ⟨#[]⟩, .int .i64 0, .slice none 0 0]) :: (q, 35, [.slice (some ⟨ga, 0, none⟩) na ca, .slice none 0 0, .slice (some ⟨gp, 0, none⟩) np cp, .slice (some ⟨gs, 0, none⟩) ns cc, .slice none 0 0, .bool false, .string ⟨#[]⟩, .string ⟨#[]⟩]) :: (b, 49, [S.sn.sn.sn.v]) :: m) ++ F) S.sn.sn b na HF (Lib.hid (HS.out.next.next)) (Lib.hid (by (repeat (first | apply Upd.head | apply Upd.tail | assumption)))) (by omega) (by omega)) ?_
    rintro _ W2 ⟨rfl, h2⟩
    refine ⟨_, rfl, hG _ _ ((q6, 86, [.int .i64 0, .string ⟨#[]⟩, .string ⟨#[]⟩, .bool false, .string ⟨#[]⟩, .string ⟨#[]⟩, .int .i64 0, .slice none 0 0]) :: (q, 35, [.slice (some ⟨ga, 0, none⟩) na ca, .slice none 0 0, .slice (some ⟨gp, 0, none⟩) np cp, .slice (some ⟨gs, 0, none⟩) ns cc, .slice none 0 0, .bool false, .string ⟨#[]⟩, .string ⟨#[]⟩]) :: (b, 49, [S.sn.sn.sn.v]) :: m) h2 (by (repeat (first | exact List.Sublist.refl _ | refine List.Sublist.cons_cons _ ?_ | refine List.Sublist.trans ?_ (List.sublist_append_right _ _) | refine List.Sublist.cons _ ?_))) ?_⟩
    clear HF hG h2
    rw [HXA.out]
    (simp only [Act.put, List.setIfInBounds_toArray, List.set_cons_succ, List.set_cons_zero])
    refine wpY_c (by rfl) (by (first | exact wanted_none rfl | exact wanted_some rfl rfl)) (by intro W _; first | (go_simp; rfl) | (go_simp; done) | (trace_state; fail)) ?_
    (simp only [Act.put, List.setIfInBounds_toArray, List.set_cons_succ, List.set_cons_zero])
    refine wpY_c (by rfl) (by (first | exact wanted_none rfl | exact wanted_some rfl rfl)) (by intro W _; first | (go_simp; rfl) | (go_simp; done) | (trace_state; fail)) ?_
    (simp only [Act.put, List.setIfInBounds_toArray, List.set_cons_succ, List.set_cons_zero])
    refine wpY_loadX (by rfl) (by rfl) (by (first | exact wanted_none rfl | exact wanted_some rfl rfl)) kStr (by rfl) (by intro W HW; exact HRA.out _ (HW.out.hld (fun x hx => by have := HE.out x hx; simp only [List.mem_cons]; grind))) ?_
    (simp only [Act.put, List.setIfInBounds_toArray, List.set_cons_succ, List.set_cons_zero])
    refine wpY_c (by rfl) (by (first | exact wanted_none rfl | exact wanted_some rfl rfl)) (by intro W _; first | (go_simp; rfl) | (go_simp; done) | (trace_state; fail)) ?_
    (simp only [Act.put, List.setIfInBounds_toArray, List.set_cons_succ, List.set_cons_zero])
    refine wpY_nil ?_
    clear H
    intro _ H
    go_wp2_with (first
        | go_skip
        | ((with_reducible refine isAlloc ?_); refine alA H ?_ (hz := zStm8); clear H; intro q9 _ H)
        | ((with_reducible refine isStore ?_); refine stA H ?_ (hT := by first | exact rStm8 | exact rRat); clear H; intro _ H)
        | ((with_reducible refine isLoad ?_); refine ldA H ?_ (hT := by first | exact rStm8 | exact rWks)))
    exact bodyPost_ret (results_H H Tryz.results23 (by exact rStm8) rfl (by (repeat (first | exact List.Mem.head _ | refine List.Mem.tail _ ?_ | assumption))) (by rfl)) rfl ⟨⟨2, nmP, nmA, none, 0, .slice none 0 0⟩, .mk 2 nmP nmA none 0 [], S.sn.sn.sn, [], rfl, (Lib.hid (HS.out.next.next.next)).out, H.out.sub (by (repeat (first | exact List.Sublist.refl _ | refine List.Sublist.cons_cons _ ?_ | refine List.Sublist.trans ?_ (List.sublist_append_right _ _) | refine List.Sublist.cons _ ?_))), RSt.leaf _ ⟨small_i (x := 2) (by omega), small_i (x := 0) (by omega), pn_sz HNP.out, an_sz HNA.out, SmO.none⟩, .inr (.inl ⟨rfl, HNP.out, HNA.out, rfl, rfl, rfl⟩)⟩
  · go_wp2_with (first
        | go_skip
        | ((with_reducible refine isAlloc ?_); refine alA H ?_ (hz := zStm8); clear H; intro q9 _ H)
        | ((with_reducible refine isStore ?_); refine stA H ?_ (hT := by first | exact rStm8 | exact rRat); clear H; intro _ H)
        | ((with_reducible refine isLoad ?_); refine ldA H ?_ (hT := by first | exact rStm8 | exact rWks)))
    exact bodyPost_ret (results_H H Tryz.results23 (by exact rStm8) rfl (by (repeat (first | exact List.Mem.head _ | refine List.Mem.tail _ ?_ | assumption))) (by rfl)) rfl ⟨⟨4, nmP, ⟨#[]⟩, none, 0, .slice none 0 0⟩, .mk 4 nmP ⟨#[]⟩ none 0 [], S.sn.sn, [], rfl, (Lib.hid (HS.out.next.next)).out, H.out.sub (by (repeat (first | exact List.Sublist.refl _ | refine List.Sublist.cons_cons _ ?_ | refine List.Sublist.trans ?_ (List.sublist_append_right _ _) | refine List.Sublist.cons _ ?_))), RSt.leaf _ ⟨small_i (x := 4) (by omega), small_i (x := 0) (by omega), pn_sz HNP.out, empty_sz, SmO.none⟩, .inr (.inr (.inr (.inl ⟨rfl, HNP.out, rfl, rfl, rfl, rfl⟩)))⟩
  · obtain ⟨x2, hx2⟩ : ∃ r, S.sn.sn.nx 2 = r := ⟨_, rfl⟩
    have hbx2 := S.sn.sn.nx_bd 2 (by omega)
    rw [hx2] at hbx2
    obtain ⟨hbx20, hbx21⟩ := hbx2
    have HVx2 := Lib.hid hx2
    clear hx2
    go_wp2_with (first
        | go_skip
        | ((with_reducible refine isAlloc ?_); refine alA H ?_ (hz := zStm8); clear H; intro q9 _ H)
        | ((with_reducible refine isStore ?_); refine stA H ?_ (hT := by first | exact rStm8 | exact rRat); clear H; intro _ H)
        | ((with_reducible refine isLoad ?_); refine ldA H ?_ (hT := by first | exact rStm8 | exact rWks)))
    go_at_call 12
    refine Calls.mono (nextH_any S.sn.sn b 2 H (Lib.hid (HS.out.next.next)) (Lib.hid (by (repeat (first | apply Upd.head | apply Upd.tail | assumption)))) (by omega) (by omega)) ?_
    rintro _ _ ⟨rfl, h2⟩
    replace H := Lib.hid h2
    clear h2
    rw [HVx2.out]
    by_cases h2 : x2 = 0
    · subst h2
      go_wp2_with (first
          | go_skip
          | ((with_reducible refine isAlloc ?_); refine alA H ?_ (hz := zStm8); clear H; intro q9 _ H)
          | ((with_reducible refine isStore ?_); refine stA H ?_ (hT := by first | exact rStm8 | exact rRat); clear H; intro _ H)
          | ((with_reducible refine isLoad ?_); refine ldA H ?_ (hT := by first | exact rStm8 | exact rWks)))
      obtain ⟨r3, hr3⟩ : ∃ r, S.sn.sn.sn.nx 3 = r := ⟨_, rfl⟩
      have hbr3 := S.sn.sn.sn.nx_bd 3 (by omega)
      rw [hr3] at hbr3
      obtain ⟨hbr30, hbr31⟩ := hbr3
      have HVr3 := Lib.hid hr3
      clear hr3
      go_at_call 12
      refine Calls.mono (nextH_any S.sn.sn.sn b 3 H (Lib.hid (HS.out.next.next.next)) (Lib.hid (by (repeat (first | apply Upd.head | apply Upd.tail | assumption)))) (by omega) (by omega)) ?_
      rintro _ _ ⟨rfl, h2⟩
      replace H := Lib.hid h2
      clear h2
      rw [HVr3.out]
      go_wp2_with (first
          | go_skip
          | ((with_reducible refine isAlloc ?_); refine alA H ?_ (hz := zStm8); clear H; intro q9 _ H)
          | ((with_reducible refine isStore ?_); refine stA H ?_ (hT := by first | exact rStm8 | exact rRat); clear H; intro _ H)
          | ((with_reducible refine isLoad ?_); refine ldA H ?_ (hT := by first | exact rStm8 | exact rWks)))
      exact bodyPost_ret (results_H H Tryz.results23 (by exact rStm8) rfl (by (repeat (first | exact List.Mem.head _ | refine List.Mem.tail _ ?_ | assumption))) (by rfl)) rfl ⟨⟨5, ⟨#[]⟩, ⟨#[]⟩, none, (1 + r3), .slice none 0 0⟩, .mk 5 ⟨#[]⟩ ⟨#[]⟩ none (1 + r3) [], S.sn.sn.sn.sn, [], rfl, (Lib.hid (HS.out.next.next.next.next)).out, H.out.sub (by (repeat (first | exact List.Sublist.refl _ | refine List.Sublist.cons_cons _ ?_ | refine List.Sublist.trans ?_ (List.sublist_append_right _ _) | refine List.Sublist.cons _ ?_))), RSt.leaf _ ⟨small_i (x := 5) (by omega), small_i (x := (1 + r3)) (by omega), empty_sz, empty_sz, SmO.none⟩, .inr (.inr (.inr (.inr (.inl ⟨rfl, rfl, rfl, rfl, ⟨by show 1 ≤ 1 + r3; omega, by show 1 + r3 ≤ 3; omega⟩, rfl⟩))))⟩
    · have x20p : ¬ (x2 = 0) := h2
      have x20d : decide (x2 = 0) = false := decide_eq_false x20p
      obtain ⟨iA, hxA⟩ : ∃ i : Nat, S.sn.sn.sn.nx na = i := ⟨(S.sn.sn.sn.nx na).toNat, by have := S.sn.sn.sn.nx_bd na (by omega); omega⟩
      have hiA : iA < na := by have := S.sn.sn.sn.nx_bd na (by omega); omega
      have HXA := Lib.hid hxA
      obtain ⟨nmA, hnmA⟩ : ∃ x, (armN.take na)[iA]? = some x := ⟨_, List.getElem?_eq_getElem (by rw [LA.out]; exact hiA)⟩
      obtain ⟨gA, cA, egA, hrA⟩ := RA.out.at_ armC_len hnmA (by decide)
      injection egA with egA _ ecA
      injection egA with egA
      injection egA with egA
      subst egA
      have HRA : Hid (∀ W, Hld E0 W → W.cell? ⟨ga, iA * 12, none⟩ = some (.string nmA)) := Lib.hid fun W hW => rangeAt_cell (hrA W hW)
      have HNA : Hid (nmA ∈ armN.take na) := Lib.hid (by exact List.mem_of_getElem? hnmA)
      clear hrA hnmA hxA ecA
      go_wp2_with (first
          | go_skip
          | ((with_reducible refine isAlloc ?_); refine alA H ?_ (hz := zStm8); clear H; intro q9 _ H)
          | ((with_reducible refine isStore ?_); refine stA H ?_ (hT := by first | exact rStm8 | exact rRat); clear H; intro _ H)
          | ((with_reducible refine isLoad ?_); refine ldA H ?_ (hT := by first | exact rStm8 | exact rWks)))
      refine wp_region_Y 11 [.c (.pointer (some ⟨q, 0, none⟩)), .c (.slice (some ⟨ga, 0, none⟩) na ca), .c (.pointer (some ⟨b, 0, none⟩)), .c (.pointer (some ⟨q, 0, none⟩)), .c (.slice (some ⟨ga, 0, none⟩) na ca), .c (.int .i64 na), .y, .c (.pointer (some ⟨ga, iA * 12, none⟩)), .c (.pointer (some ⟨ga, iA * 12, none⟩)), .c (.string nmA), .c (.agg #[.int .i64 3, .string nmA, .string ⟨#[]⟩, .bool false, .string ⟨#[]⟩, .string ⟨#[]⟩, .int .i64 0, .slice none 0 0])] ((q6, 86, [.int .i64 0, .string ⟨#[]⟩, .string ⟨#[]⟩, .bool false, .string ⟨#[]⟩, .string ⟨#[]⟩, .int .i64 0, .slice none 0 0]) :: (q, 35, [.slice (some ⟨ga, 0, none⟩) na ca, .slice none 0 0, .slice (some ⟨gp, 0, none⟩) np cp, .slice (some ⟨gs, 0, none⟩) ns cc, .slice none 0 0, .bool false, .string ⟨#[]⟩, .string ⟨#[]⟩]) :: m) H (by (repeat (first | exact List.Sublist.refl _ | refine List.Sublist.cons_cons _ ?_ | refine List.Sublist.trans ?_ (List.sublist_append_right _ _) | refine List.Sublist.cons _ ?_))) (by kernel_rfl) (by kernel_rfl) (by kernel_rfl) ?_
      simp only [List.take_succ_cons, List.take_zero, List.drop_succ_cons, List.drop_zero]
      refine wpY_c (by rfl) (by (first | exact wanted_none rfl | exact wanted_some rfl rfl)) (by intro W _; first | (go_simp; rfl) | (go_simp; done) | (trace_state; fail)) ?_
      (simp only [Act.put, List.setIfInBounds_toArray, List.set_cons_succ, List.set_cons_zero])
      refine wpY_load1 (by rfl) (by rfl) (by (first | exact wanted_none rfl | exact wanted_some rfl rfl)) (by first | exact kPrl | exact kSll | exact kArl | exact kStr | exact kInt) (by rfl) (by (repeat (first | exact List.Mem.head _ | refine List.Mem.tail _ ?_ | assumption))) (by rfl) ?_
      (simp only [Act.put, List.setIfInBounds_toArray, List.set_cons_succ, List.set_cons_zero])
      refine wpY_c (by rfl) (by (first | exact wanted_none rfl | exact wanted_some rfl rfl)) (by intro W _; first | (go_simp; rfl) | (go_simp; done) | (trace_state; fail)) ?_
      (simp only [Act.put, List.setIfInBounds_toArray, List.set_cons_succ, List.set_cons_zero])
      refine wpY_c (by rfl) (by (first | exact wanted_none rfl | exact wanted_some rfl rfl)) (by intro W _; first | (go_simp; rfl) | (go_simp; done) | (trace_state; fail)) ?_
      (simp only [Act.put, List.setIfInBounds_toArray, List.set_cons_succ, List.set_cons_zero])
      refine wpY_load1 (by rfl) (by rfl) (by (first | exact wanted_none rfl | exact wanted_some rfl rfl)) (by first | exact kPrl | exact kSll | exact kArl | exact kStr | exact kInt) (by rfl) (by (repeat (first | exact List.Mem.head _ | refine List.Mem.tail _ ?_ | assumption))) (by rfl) ?_
      (simp only [Act.put, List.setIfInBounds_toArray, List.set_cons_succ, List.set_cons_zero])
      refine wpY_c (by rfl) (by (first | exact wanted_none rfl | exact wanted_some rfl rfl)) (by intro W _; first | (go_simp; rfl) | (go_simp; done) | (trace_state; fail)) ?_
      (simp only [Act.put, List.setIfInBounds_toArray, List.set_cons_succ, List.set_cons_zero])
      refine wpY_y (by rfl) (by (first | exact wanted_none rfl | exact wanted_some rfl rfl)) (fun G F W HF hG => ?_)
      go_simp
      unfold upY
      refine Calls.mono (nextH_any (m' := ((q6, 86, [.int .i64 0, .string ⟨#[]⟩, .string ⟨#[]⟩, .bool false, .string ⟨#[]⟩, .string ⟨#[]⟩, .int .i64 0, .slice none 0 0]) :: (q, 35, [.slice (some ⟨ga, 0, none⟩) na ca, .slice none 0 0, .slice (some ⟨gp, 0, none⟩) np cp, .slice (some ⟨gs, 0, none⟩) ns cc, .slice none 0 0, .bool false, .string ⟨#[]⟩, .string ⟨#[]⟩]) :: (b, 49, [S.sn.sn.sn.sn.v]) :: m) ++ F) S.sn.sn.sn b na HF (Lib.hid (HS.out.next.next.next)) (Lib.hid (by (repeat (first | apply Upd.head | apply Upd.tail | assumption)))) (by omega) (by omega)) ?_
      rintro _ W2 ⟨rfl, h2⟩
      refine ⟨_, rfl, hG _ _ ((q6, 86, [.int .i64 0, .string ⟨#[]⟩, .string ⟨#[]⟩, .bool false, .string ⟨#[]⟩, .string ⟨#[]⟩, .int .i64 0, .slice none 0 0]) :: (q, 35, [.slice (some ⟨ga, 0, none⟩) na ca, .slice none 0 0, .slice (some ⟨gp, 0, none⟩) np cp, .slice (some ⟨gs, 0, none⟩) ns cc, .slice none 0 0, .bool false, .string ⟨#[]⟩, .string ⟨#[]⟩]) :: (b, 49, [S.sn.sn.sn.sn.v]) :: m) h2 (by (repeat (first | exact List.Sublist.refl _ | refine List.Sublist.cons_cons _ ?_ | refine List.Sublist.trans ?_ (List.sublist_append_right _ _) | refine List.Sublist.cons _ ?_))) ?_⟩
      clear HF hG h2
      rw [HXA.out]
      (simp only [Act.put, List.setIfInBounds_toArray, List.set_cons_succ, List.set_cons_zero])
      refine wpY_c (by rfl) (by (first | exact wanted_none rfl | exact wanted_some rfl rfl)) (by intro W _; first | (go_simp; rfl) | (go_simp; done) | (trace_state; fail)) ?_
      (simp only [Act.put, List.setIfInBounds_toArray, List.set_cons_succ, List.set_cons_zero])
      refine wpY_c (by rfl) (by (first | exact wanted_none rfl | exact wanted_some rfl rfl)) (by intro W _; first | (go_simp; rfl) | (go_simp; done) | (trace_state; fail)) ?_
      (simp only [Act.put, List.setIfInBounds_toArray, List.set_cons_succ, List.set_cons_zero])
      refine wpY_loadX (by rfl) (by rfl) (by (first | exact wanted_none rfl | exact wanted_some rfl rfl)) kStr (by rfl) (by intro W HW; exact HRA.out _ (HW.out.hld (fun x hx => by have := HE.out x hx; simp only [List.mem_cons]; grind))) ?_
      (simp only [Act.put, List.setIfInBounds_toArray, List.set_cons_succ, List.set_cons_zero])
      refine wpY_c (by rfl) (by (first | exact wanted_none rfl | exact wanted_some rfl rfl)) (by intro W _; first | (go_simp; rfl) | (go_simp; done) | (trace_state; fail)) ?_
      (simp only [Act.put, List.setIfInBounds_toArray, List.set_cons_succ, List.set_cons_zero])
      refine wpY_nil ?_
      clear H
      intro _ H
      go_wp2_with (first
          | go_skip
          | ((with_reducible refine isAlloc ?_); refine alA H ?_ (hz := zStm8); clear H; intro q9 _ H)
          | ((with_reducible refine isStore ?_); refine stA H ?_ (hT := by first | exact rStm8 | exact rRat); clear H; intro _ H)
          | ((with_reducible refine isLoad ?_); refine ldA H ?_ (hT := by first | exact rStm8 | exact rWks)))
      exact bodyPost_ret (results_H H Tryz.results23 (by exact rStm8) rfl (by (repeat (first | exact List.Mem.head _ | refine List.Mem.tail _ ?_ | assumption))) (by rfl)) rfl ⟨⟨3, nmA, ⟨#[]⟩, none, 0, .slice none 0 0⟩, .mk 3 nmA ⟨#[]⟩ none 0 [], S.sn.sn.sn.sn, [], rfl, (Lib.hid (HS.out.next.next.next.next)).out, H.out.sub (by (repeat (first | exact List.Sublist.refl _ | refine List.Sublist.cons_cons _ ?_ | refine List.Sublist.trans ?_ (List.sublist_append_right _ _) | refine List.Sublist.cons _ ?_))), RSt.leaf _ ⟨small_i (x := 3) (by omega), small_i (x := 0) (by omega), an_sz HNA.out, empty_sz, SmO.none⟩, .inr (.inr (.inl ⟨rfl, HNA.out, rfl, rfl, rfl, rfl⟩))⟩
  · go_wp2_with (first
        | go_skip
        | ((with_reducible refine isAlloc ?_); refine alA H ?_ (hz := zStm8); clear H; intro q9 _ H)
        | ((with_reducible refine isStore ?_); refine stA H ?_ (hT := by first | exact rStm8 | exact rRat) (hu := by (repeat (first | apply Upd.head | apply Upd.tail | apply Upd.app | assumption))); clear H; intro _ H)
        | ((with_reducible refine isLoad ?_); refine ldA H ?_ (hT := by first | exact rStm8 | exact rWks)))
    replace H := Lib.hid (H.out.perm (List.perm_middle (l₁ := [_, _])))
    simp only [List.cons_append, List.nil_append] at H
    refine wp_region_Y 12 [.c (.agg #[.slice (some ⟨ga, 0, none⟩) na ca, .slice none 0 0, .slice (some ⟨gp, 0, none⟩) np cp, .slice (some ⟨gs, 0, none⟩) ns cc, .slice none 0 0, .bool false, .string ⟨#[]⟩, .string ⟨#[]⟩]), .c (.pointer (some ⟨b, 0, none⟩)), .c (.int .i64 p), .c (.int .i64 ((p : Int) + 1)), .y, .c (.agg #[.slice (some ⟨ga, 0, none⟩) na ca, .slice none 0 0, .slice (some ⟨gp, 0, none⟩) np cp, .slice (some ⟨gs, 0, none⟩) ns cc, .slice none 0 0, .bool false, .string ⟨#[]⟩, .string ⟨#[]⟩]), .c (.pointer (some ⟨b, 0, none⟩)), .c (.int .i64 p), .c (.int .i64 ((p : Int) + 1)), .y, .a, .y] ((q6, 86, [.int .i64 0, .string ⟨#[]⟩, .string ⟨#[]⟩, .bool false, .string ⟨#[]⟩, .string ⟨#[]⟩, .int .i64 0, .slice none 0 0]) :: (q, 35, [.slice (some ⟨ga, 0, none⟩) na ca, .slice none 0 0, .slice (some ⟨gp, 0, none⟩) np cp, .slice (some ⟨gs, 0, none⟩) ns cc, .slice none 0 0, .bool false, .string ⟨#[]⟩, .string ⟨#[]⟩]) :: m) H (by (repeat (first | exact List.Sublist.refl _ | refine List.Sublist.cons_cons _ ?_ | refine List.Sublist.trans ?_ (List.sublist_append_right _ _) | refine List.Sublist.cons _ ?_))) (by kernel_rfl) (by kernel_rfl) (by kernel_rfl) ?_
    simp only [List.take_succ_cons, List.take_zero, List.drop_succ_cons, List.drop_zero]
    refine wpY_load (by rfl) (by rfl) (by (first | exact wanted_none rfl | exact wanted_some rfl rfl)) rWks (by rfl) (by (repeat (first | exact List.Mem.head _ | refine List.Mem.tail _ ?_ | assumption))) (by first | rfl | ((simp only [List.drop, List.take]); rfl)) (by rfl) ?_
    (simp only [Act.put, List.setIfInBounds_toArray, List.set_cons_succ, List.set_cons_zero])
    refine wpY_c (by rfl) (by (first | exact wanted_none rfl | exact wanted_some rfl rfl)) (by intro W _; first | (go_simp; rfl) | (go_simp; done) | (trace_state; fail)) ?_
    (simp only [Act.put, List.setIfInBounds_toArray, List.set_cons_succ, List.set_cons_zero])
    refine wpY_c (by rfl) (by (first | exact wanted_none rfl | exact wanted_some rfl rfl)) (by intro W _; first | (go_simp; rfl) | (go_simp; done) | (trace_state; fail)) ?_
    (simp only [Act.put, List.setIfInBounds_toArray, List.set_cons_succ, List.set_cons_zero])
    refine wpY_c (by rfl) (by (first | exact wanted_none rfl | exact wanted_some rfl rfl)) (by intro W _; first | (go_simp; rfl) | (go_simp; done) | (trace_state; fail)) ?_
    (simp only [Act.put, List.setIfInBounds_toArray, List.set_cons_succ, List.set_cons_zero])
    refine wpY_y (by rfl) (by (first | exact wanted_none rfl | exact wanted_some rfl rfl)) (fun G F W HF hG => ?_)
    go_simp
    unfold upY
    refine Calls.mono (HC.out w0 W (((q6, 86, [.int .i64 0, .string ⟨#[]⟩, .string ⟨#[]⟩, .bool false, .string ⟨#[]⟩, .string ⟨#[]⟩, .int .i64 0, .slice none 0 0]) :: (q, 35, [.slice (some ⟨ga, 0, none⟩) na ca, .slice none 0 0, .slice (some ⟨gp, 0, none⟩) np cp, .slice (some ⟨gs, 0, none⟩) ns cc, .slice none 0 0, .bool false, .string ⟨#[]⟩, .string ⟨#[]⟩]) :: m) ++ F) E0 b S.sn.sn _ HF (Lib.hid (HS.out.next.next)) WV (Lib.hid (fun x hx => by have := HE.out x hx; simp [this]))) ?_
    rintro _ W2 ⟨x1, l1, S1, E1, rfl, hS1, h2, hR1, hV1⟩
    obtain ⟨B1, c1, rfl⟩ := hR1.shape
    refine ⟨_, rfl, hG _ _ ((b, 49, [S1.v]) :: (E1 ++ ((q6, 86, [.int .i64 0, .string ⟨#[]⟩, .string ⟨#[]⟩, .bool false, .string ⟨#[]⟩, .string ⟨#[]⟩, .int .i64 0, .slice none 0 0]) :: (q, 35, [.slice (some ⟨ga, 0, none⟩) na ca, .slice none 0 0, .slice (some ⟨gp, 0, none⟩) np cp, .slice (some ⟨gs, 0, none⟩) ns cc, .slice none 0 0, .bool false, .string ⟨#[]⟩, .string ⟨#[]⟩]) :: m))) (by simpa only [List.cons_append, List.append_assoc] using h2) (by (repeat (first | exact List.Sublist.refl _ | refine List.Sublist.cons_cons _ ?_ | refine List.Sublist.trans ?_ (List.sublist_append_right _ _) | refine List.Sublist.cons _ ?_))) ?_⟩
    have HS1 := Lib.hid hS1
    have HR1 := Lib.hid hR1
    have HV1 := Lib.hid hV1
    clear HF hG h2 hS1 hR1 hV1
    (simp only [Act.put, List.setIfInBounds_toArray, List.set_cons_succ, List.set_cons_zero])
    refine wpY_load (by rfl) (by rfl) (by (first | exact wanted_none rfl | exact wanted_some rfl rfl)) rWks (by rfl) (by (repeat (first | exact List.Mem.head _ | refine List.Mem.tail _ ?_ | assumption))) (by first | rfl | ((simp only [List.drop, List.take]); rfl)) (by rfl) ?_
    (simp only [Act.put, List.setIfInBounds_toArray, List.set_cons_succ, List.set_cons_zero])
    refine wpY_c (by rfl) (by (first | exact wanted_none rfl | exact wanted_some rfl rfl)) (by intro W _; first | (go_simp; rfl) | (go_simp; done) | (trace_state; fail)) ?_
    (simp only [Act.put, List.setIfInBounds_toArray, List.set_cons_succ, List.set_cons_zero])
    refine wpY_c (by rfl) (by (first | exact wanted_none rfl | exact wanted_some rfl rfl)) (by intro W _; first | (go_simp; rfl) | (go_simp; done) | (trace_state; fail)) ?_
    (simp only [Act.put, List.setIfInBounds_toArray, List.set_cons_succ, List.set_cons_zero])
    refine wpY_c (by rfl) (by (first | exact wanted_none rfl | exact wanted_some rfl rfl)) (by intro W _; first | (go_simp; rfl) | (go_simp; done) | (trace_state; fail)) ?_
    (simp only [Act.put, List.setIfInBounds_toArray, List.set_cons_succ, List.set_cons_zero])
    refine wpY_y (by rfl) (by (first | exact wanted_none rfl | exact wanted_some rfl rfl)) (fun G F W HF hG => ?_)
    go_simp
    unfold upY
    refine Calls.mono (HC.out w0 W ((E1 ++ ((q6, 86, [.int .i64 0, .string ⟨#[]⟩, .string ⟨#[]⟩, .bool false, .string ⟨#[]⟩, .string ⟨#[]⟩, .int .i64 0, .slice none 0 0]) :: (q, 35, [.slice (some ⟨ga, 0, none⟩) na ca, .slice none 0 0, .slice (some ⟨gp, 0, none⟩) np cp, .slice (some ⟨gs, 0, none⟩) ns cc, .slice none 0 0, .bool false, .string ⟨#[]⟩, .string ⟨#[]⟩]) :: m)) ++ F) E0 b S1 _ HF HS1 WV (Lib.hid (fun x hx => by have := HE.out x hx; simp [this]))) ?_
    rintro _ W2 ⟨x2, l2, S2, E2, rfl, hS2, h2, hR2, hV2⟩
    obtain ⟨B2, c2, rfl⟩ := hR2.shape
    refine ⟨_, rfl, hG _ _ ((b, 49, [S2.v]) :: (E2 ++ (E1 ++ ((q6, 86, [.int .i64 0, .string ⟨#[]⟩, .string ⟨#[]⟩, .bool false, .string ⟨#[]⟩, .string ⟨#[]⟩, .int .i64 0, .slice none 0 0]) :: (q, 35, [.slice (some ⟨ga, 0, none⟩) na ca, .slice none 0 0, .slice (some ⟨gp, 0, none⟩) np cp, .slice (some ⟨gs, 0, none⟩) ns cc, .slice none 0 0, .bool false, .string ⟨#[]⟩, .string ⟨#[]⟩]) :: m)))) (by simpa only [List.cons_append, List.append_assoc] using h2) (by (repeat (first | exact List.Sublist.refl _ | refine List.Sublist.cons_cons _ ?_ | refine List.Sublist.trans ?_ (List.sublist_append_right _ _) | refine List.Sublist.cons _ ?_))) ?_⟩
    have HS2 := Lib.hid hS2
    have HR2 := Lib.hid hR2
    have HV2 := Lib.hid hV2
    clear HF hG h2 hS2 hR2 hV2
    (simp only [Act.put, List.setIfInBounds_toArray, List.set_cons_succ, List.set_cons_zero])
    refine wpY_V 23 ([.slice B1 l1.length c1, .slice B2 l2.length c2]) 2 (by rfl) (by rfl) (by intro W; kernel_rfl) ?_
    intro gz
    (simp only [Act.put, List.setIfInBounds_toArray, List.set_cons_succ, List.set_cons_zero])
    refine wpY_p (by rfl) (by (repeat (first | exact List.Sublist.refl _ | refine List.Sublist.cons_cons _ ?_ | refine List.Sublist.trans ?_ (List.sublist_append_right _ _) | refine List.Sublist.cons _ ?_))) (by (first | exact wanted_none rfl | exact wanted_some rfl rfl)) (by intro W; first | (go_simp; rfl) | go_simp) ?_
    (simp only [Act.put, List.setIfInBounds_toArray, List.set_cons_succ, List.set_cons_zero])
    refine wpY_nil ?_
    clear H
    intro _ H
    go_wp2_with (first
        | go_skip
        | ((with_reducible refine isAlloc ?_); refine alA H ?_ (hz := zStm8); clear H; intro q9 _ H)
        | ((with_reducible refine isStore ?_); refine stA H ?_ (hT := by first | exact rStm8 | exact rRat) (hu := by (repeat (first | apply Upd.head | apply Upd.tail | apply Upd.app | assumption))); clear H; intro _ H)
        | ((with_reducible refine isLoad ?_); refine ldA H ?_ (hT := by first | exact rStm8 | exact rWks)))
    exact bodyPost_ret (results_H H Tryz.results23 (by exact rStm8) rfl (by (repeat (first | exact List.Mem.head _ | refine List.Mem.tail _ ?_ | refine List.mem_append_right _ ?_ | assumption))) (by rfl)) rfl ⟨⟨8, ⟨#[]⟩, ⟨#[]⟩, none, 0, .slice (some ⟨gz, 0, none⟩) 2 2⟩, .mk 8 ⟨#[]⟩ ⟨#[]⟩ none 0 [l1, l2], S2, (gz, 23, [.slice B1 l1.length c1, .slice B2 l2.length c2]) :: (E2 ++ E1), rfl, HS2.out, fin2 H.out (by (repeat (first | exact List.Sublist.refl _ | refine List.Sublist.cons_cons _ ?_ | refine List.Sublist.trans ?_ (List.sublist_append_right _ _) | refine List.Sublist.cons _ ?_))), RSt.two (.head _) (HR1.out.mono (fun x hx => .tail _ (List.mem_append_right _ hx))) (HR2.out.mono (fun x hx => .tail _ (List.mem_append_left _ hx))) (by omega) (by omega),
      .inr (.inr (.inr (.inr (.inr ⟨rfl, rfl, rfl, two_mem HV1.out HV2.out, .inr (.inr (.inl ⟨rfl, rfl, rfl⟩))⟩))))⟩
  · go_wp2_with (first
        | go_skip
        | ((with_reducible refine isAlloc ?_); refine alA H ?_ (hz := zStm8); clear H; intro q9 _ H)
        | ((with_reducible refine isStore ?_); refine stA H ?_ (hT := by first | exact rStm8 | exact rRat) (hu := by (repeat (first | apply Upd.head | apply Upd.tail | apply Upd.app | assumption))); clear H; intro _ H)
        | ((with_reducible refine isLoad ?_); refine ldA H ?_ (hT := by first | exact rStm8 | exact rWks)))
    replace H := Lib.hid (H.out.perm (List.perm_middle (l₁ := [_, _])))
    simp only [List.cons_append, List.nil_append] at H
    refine wp_region_Y 12 [.c (.agg #[.slice (some ⟨ga, 0, none⟩) na ca, .slice none 0 0, .slice (some ⟨gp, 0, none⟩) np cp, .slice (some ⟨gs, 0, none⟩) ns cc, .slice none 0 0, .bool false, .string ⟨#[]⟩, .string ⟨#[]⟩]), .c (.pointer (some ⟨b, 0, none⟩)), .c (.int .i64 p), .c (.int .i64 ((p : Int) + 1)), .y, .c (.agg #[.slice (some ⟨ga, 0, none⟩) na ca, .slice none 0 0, .slice (some ⟨gp, 0, none⟩) np cp, .slice (some ⟨gs, 0, none⟩) ns cc, .slice none 0 0, .bool false, .string ⟨#[]⟩, .string ⟨#[]⟩]), .c (.pointer (some ⟨b, 0, none⟩)), .c (.int .i64 p), .c (.int .i64 ((p : Int) + 1)), .y, .a, .y] ((q6, 86, [.int .i64 0, .string ⟨#[]⟩, .string ⟨#[]⟩, .bool false, .string ⟨#[]⟩, .string ⟨#[]⟩, .int .i64 0, .slice none 0 0]) :: (q, 35, [.slice (some ⟨ga, 0, none⟩) na ca, .slice none 0 0, .slice (some ⟨gp, 0, none⟩) np cp, .slice (some ⟨gs, 0, none⟩) ns cc, .slice none 0 0, .bool false, .string ⟨#[]⟩, .string ⟨#[]⟩]) :: m) H (by (repeat (first | exact List.Sublist.refl _ | refine List.Sublist.cons_cons _ ?_ | refine List.Sublist.trans ?_ (List.sublist_append_right _ _) | refine List.Sublist.cons _ ?_))) (by kernel_rfl) (by kernel_rfl) (by kernel_rfl) ?_
    simp only [List.take_succ_cons, List.take_zero, List.drop_succ_cons, List.drop_zero]
    refine wpY_load (by rfl) (by rfl) (by (first | exact wanted_none rfl | exact wanted_some rfl rfl)) rWks (by rfl) (by (repeat (first | exact List.Mem.head _ | refine List.Mem.tail _ ?_ | assumption))) (by first | rfl | ((simp only [List.drop, List.take]); rfl)) (by rfl) ?_
    (simp only [Act.put, List.setIfInBounds_toArray, List.set_cons_succ, List.set_cons_zero])
    refine wpY_c (by rfl) (by (first | exact wanted_none rfl | exact wanted_some rfl rfl)) (by intro W _; first | (go_simp; rfl) | (go_simp; done) | (trace_state; fail)) ?_
    (simp only [Act.put, List.setIfInBounds_toArray, List.set_cons_succ, List.set_cons_zero])
    refine wpY_c (by rfl) (by (first | exact wanted_none rfl | exact wanted_some rfl rfl)) (by intro W _; first | (go_simp; rfl) | (go_simp; done) | (trace_state; fail)) ?_
    (simp only [Act.put, List.setIfInBounds_toArray, List.set_cons_succ, List.set_cons_zero])
    refine wpY_c (by rfl) (by (first | exact wanted_none rfl | exact wanted_some rfl rfl)) (by intro W _; first | (go_simp; rfl) | (go_simp; done) | (trace_state; fail)) ?_
    (simp only [Act.put, List.setIfInBounds_toArray, List.set_cons_succ, List.set_cons_zero])
    refine wpY_y (by rfl) (by (first | exact wanted_none rfl | exact wanted_some rfl rfl)) (fun G F W HF hG => ?_)
    go_simp
    unfold upY
    refine Calls.mono (HC.out w0 W (((q6, 86, [.int .i64 0, .string ⟨#[]⟩, .string ⟨#[]⟩, .bool false, .string ⟨#[]⟩, .string ⟨#[]⟩, .int .i64 0, .slice none 0 0]) :: (q, 35, [.slice (some ⟨ga, 0, none⟩) na ca, .slice none 0 0, .slice (some ⟨gp, 0, none⟩) np cp, .slice (some ⟨gs, 0, none⟩) ns cc, .slice none 0 0, .bool false, .string ⟨#[]⟩, .string ⟨#[]⟩]) :: m) ++ F) E0 b S.sn.sn _ HF (Lib.hid (HS.out.next.next)) WV (Lib.hid (fun x hx => by have := HE.out x hx; simp [this]))) ?_
    rintro _ W2 ⟨x1, l1, S1, E1, rfl, hS1, h2, hR1, hV1⟩
    obtain ⟨B1, c1, rfl⟩ := hR1.shape
    refine ⟨_, rfl, hG _ _ ((b, 49, [S1.v]) :: (E1 ++ ((q6, 86, [.int .i64 0, .string ⟨#[]⟩, .string ⟨#[]⟩, .bool false, .string ⟨#[]⟩, .string ⟨#[]⟩, .int .i64 0, .slice none 0 0]) :: (q, 35, [.slice (some ⟨ga, 0, none⟩) na ca, .slice none 0 0, .slice (some ⟨gp, 0, none⟩) np cp, .slice (some ⟨gs, 0, none⟩) ns cc, .slice none 0 0, .bool false, .string ⟨#[]⟩, .string ⟨#[]⟩]) :: m))) (by simpa only [List.cons_append, List.append_assoc] using h2) (by (repeat (first | exact List.Sublist.refl _ | refine List.Sublist.cons_cons _ ?_ | refine List.Sublist.trans ?_ (List.sublist_append_right _ _) | refine List.Sublist.cons _ ?_))) ?_⟩
    have HS1 := Lib.hid hS1
    have HR1 := Lib.hid hR1
    have HV1 := Lib.hid hV1
    clear HF hG h2 hS1 hR1 hV1
    (simp only [Act.put, List.setIfInBounds_toArray, List.set_cons_succ, List.set_cons_zero])
    refine wpY_load (by rfl) (by rfl) (by (first | exact wanted_none rfl | exact wanted_some rfl rfl)) rWks (by rfl) (by (repeat (first | exact List.Mem.head _ | refine List.Mem.tail _ ?_ | assumption))) (by first | rfl | ((simp only [List.drop, List.take]); rfl)) (by rfl) ?_
    (simp only [Act.put, List.setIfInBounds_toArray, List.set_cons_succ, List.set_cons_zero])
    refine wpY_c (by rfl) (by (first | exact wanted_none rfl | exact wanted_some rfl rfl)) (by intro W _; first | (go_simp; rfl) | (go_simp; done) | (trace_state; fail)) ?_
    (simp only [Act.put, List.setIfInBounds_toArray, List.set_cons_succ, List.set_cons_zero])
    refine wpY_c (by rfl) (by (first | exact wanted_none rfl | exact wanted_some rfl rfl)) (by intro W _; first | (go_simp; rfl) | (go_simp; done) | (trace_state; fail)) ?_
    (simp only [Act.put, List.setIfInBounds_toArray, List.set_cons_succ, List.set_cons_zero])
    refine wpY_c (by rfl) (by (first | exact wanted_none rfl | exact wanted_some rfl rfl)) (by intro W _; first | (go_simp; rfl) | (go_simp; done) | (trace_state; fail)) ?_
    (simp only [Act.put, List.setIfInBounds_toArray, List.set_cons_succ, List.set_cons_zero])
    refine wpY_y (by rfl) (by (first | exact wanted_none rfl | exact wanted_some rfl rfl)) (fun G F W HF hG => ?_)
    go_simp
    unfold upY
    refine Calls.mono (HC.out w0 W ((E1 ++ ((q6, 86, [.int .i64 0, .string ⟨#[]⟩, .string ⟨#[]⟩, .bool false, .string ⟨#[]⟩, .string ⟨#[]⟩, .int .i64 0, .slice none 0 0]) :: (q, 35, [.slice (some ⟨ga, 0, none⟩) na ca, .slice none 0 0, .slice (some ⟨gp, 0, none⟩) np cp, .slice (some ⟨gs, 0, none⟩) ns cc, .slice none 0 0, .bool false, .string ⟨#[]⟩, .string ⟨#[]⟩]) :: m)) ++ F) E0 b S1 _ HF HS1 WV (Lib.hid (fun x hx => by have := HE.out x hx; simp [this]))) ?_
    rintro _ W2 ⟨x2, l2, S2, E2, rfl, hS2, h2, hR2, hV2⟩
    obtain ⟨B2, c2, rfl⟩ := hR2.shape
    refine ⟨_, rfl, hG _ _ ((b, 49, [S2.v]) :: (E2 ++ (E1 ++ ((q6, 86, [.int .i64 0, .string ⟨#[]⟩, .string ⟨#[]⟩, .bool false, .string ⟨#[]⟩, .string ⟨#[]⟩, .int .i64 0, .slice none 0 0]) :: (q, 35, [.slice (some ⟨ga, 0, none⟩) na ca, .slice none 0 0, .slice (some ⟨gp, 0, none⟩) np cp, .slice (some ⟨gs, 0, none⟩) ns cc, .slice none 0 0, .bool false, .string ⟨#[]⟩, .string ⟨#[]⟩]) :: m)))) (by simpa only [List.cons_append, List.append_assoc] using h2) (by (repeat (first | exact List.Sublist.refl _ | refine List.Sublist.cons_cons _ ?_ | refine List.Sublist.trans ?_ (List.sublist_append_right _ _) | refine List.Sublist.cons _ ?_))) ?_⟩
    have HS2 := Lib.hid hS2
    have HR2 := Lib.hid hR2
    have HV2 := Lib.hid hV2
    clear HF hG h2 hS2 hR2 hV2
    (simp only [Act.put, List.setIfInBounds_toArray, List.set_cons_succ, List.set_cons_zero])
    refine wpY_V 23 ([.slice B1 l1.length c1, .slice B2 l2.length c2]) 2 (by rfl) (by rfl) (by intro W; kernel_rfl) ?_
    intro gz
    (simp only [Act.put, List.setIfInBounds_toArray, List.set_cons_succ, List.set_cons_zero])
    refine wpY_p (by rfl) (by (repeat (first | exact List.Sublist.refl _ | refine List.Sublist.cons_cons _ ?_ | refine List.Sublist.trans ?_ (List.sublist_append_right _ _) | refine List.Sublist.cons _ ?_))) (by (first | exact wanted_none rfl | exact wanted_some rfl rfl)) (by intro W; first | (go_simp; rfl) | go_simp) ?_
    (simp only [Act.put, List.setIfInBounds_toArray, List.set_cons_succ, List.set_cons_zero])
    refine wpY_nil ?_
    clear H
    intro _ H
    go_wp2_with (first
        | go_skip
        | ((with_reducible refine isAlloc ?_); refine alA H ?_ (hz := zStm8); clear H; intro q9 _ H)
        | ((with_reducible refine isStore ?_); refine stA H ?_ (hT := by first | exact rStm8 | exact rRat) (hu := by (repeat (first | apply Upd.head | apply Upd.tail | apply Upd.app | assumption))); clear H; intro _ H)
        | ((with_reducible refine isLoad ?_); refine ldA H ?_ (hT := by first | exact rStm8 | exact rWks)))
    exact bodyPost_ret (results_H H Tryz.results23 (by exact rStm8) rfl (by (repeat (first | exact List.Mem.head _ | refine List.Mem.tail _ ?_ | refine List.mem_append_right _ ?_ | assumption))) (by rfl)) rfl ⟨⟨9, ⟨#[]⟩, ⟨#[]⟩, none, 0, .slice (some ⟨gz, 0, none⟩) 2 2⟩, .mk 9 ⟨#[]⟩ ⟨#[]⟩ none 0 [l1, l2], S2, (gz, 23, [.slice B1 l1.length c1, .slice B2 l2.length c2]) :: (E2 ++ E1), rfl, HS2.out, fin2 H.out (by (repeat (first | exact List.Sublist.refl _ | refine List.Sublist.cons_cons _ ?_ | refine List.Sublist.trans ?_ (List.sublist_append_right _ _) | refine List.Sublist.cons _ ?_))), RSt.two (.head _) (HR1.out.mono (fun x hx => .tail _ (List.mem_append_right _ hx))) (HR2.out.mono (fun x hx => .tail _ (List.mem_append_left _ hx))) (by omega) (by omega),
      .inr (.inr (.inr (.inr (.inr ⟨rfl, rfl, rfl, two_mem HV1.out HV2.out, .inr (.inr (.inr ⟨rfl, rfl, rfl⟩))⟩))))⟩
  · obtain ⟨x2, hx2⟩ : ∃ r, S.sn.sn.nx 2 = r := ⟨_, rfl⟩
    have hbx2 := S.sn.sn.nx_bd 2 (by omega)
    rw [hx2] at hbx2
    obtain ⟨hbx20, hbx21⟩ := hbx2
    have HVx2 := Lib.hid hx2
    clear hx2
    go_wp2_with (first
        | go_skip
        | ((with_reducible refine isAlloc ?_); refine alA H ?_ (hz := zStm8); clear H; intro q9 _ H)
        | ((with_reducible refine isStore ?_); refine stA H ?_ (hT := by first | exact rStm8 | exact rRat) (hu := by (repeat (first | apply Upd.head | apply Upd.tail | apply Upd.app | assumption))); clear H; intro _ H)
        | ((with_reducible refine isLoad ?_); refine ldA H ?_ (hT := by first | exact rStm8 | exact rWks)))
    go_at_call 12
    refine Calls.mono (nextH_any S.sn.sn b 2 H (Lib.hid (HS.out.next.next)) (Lib.hid (by (repeat (first | apply Upd.head | apply Upd.tail | assumption)))) (by omega) (by omega)) ?_
    rintro _ _ ⟨rfl, h2⟩
    replace H := Lib.hid h2
    clear h2
    rw [HVx2.out]
    by_cases h2 : x2 = 0
    · subst h2
      go_wp2_with (first
          | go_skip
          | ((with_reducible refine isAlloc ?_); refine alA H ?_ (hz := zStm8); clear H; intro q9 _ H)
          | ((with_reducible refine isStore ?_); refine stA H ?_ (hT := by first | exact rStm8 | exact rRat) (hu := by (repeat (first | apply Upd.head | apply Upd.tail | apply Upd.app | assumption))); clear H; intro _ H)
          | ((with_reducible refine isLoad ?_); refine ldA H ?_ (hT := by first | exact rStm8 | exact rWks))
          | ((with_reducible refine isSlc ?_); refine bsA 23 [.slice B1 l1.length c1] 1 H ?_; clear H; intro gz _ H))
      replace H := Lib.hid (H.out.perm (List.perm_middle (l₁ := [_, _])))
      simp only [List.cons_append, List.nil_append] at H
      go_at_call 11
      refine Calls.mono (HC.out w0 _ ((q6, 86, [.int .i64 0, .string ⟨#[]⟩, .string ⟨#[]⟩, .bool false, .string ⟨#[]⟩, .string ⟨#[]⟩, .int .i64 0, .slice none 0 0]) :: (q, 35, [.slice (some ⟨ga, 0, none⟩) na ca, .slice none 0 0, .slice (some ⟨gp, 0, none⟩) np cp, .slice (some ⟨gs, 0, none⟩) ns cc, .slice none 0 0, .bool false, .string ⟨#[]⟩, .string ⟨#[]⟩]) :: m) E0 b S.sn.sn.sn _ H (Lib.hid (HS.out.next.next.next)) WV (Lib.hid (fun x hx => .tail _ (.tail _ (HE.out x hx))))) ?_
      rintro _ _ ⟨x1, l1, S1, E1, rfl, hS1, h2, hR1, hV1⟩
      replace H := Lib.hid h2
      obtain ⟨B1, c1, rfl⟩ := hR1.shape
      have HS1 := Lib.hid hS1
      have HR1 := Lib.hid hR1
      have HV1 := Lib.hid hV1
      clear h2 hS1 hR1 hV1
      go_wp2_with (first
          | go_skip
          | ((with_reducible refine isAlloc ?_); refine alA H ?_ (hz := zStm8); clear H; intro q9 _ H)
          | ((with_reducible refine isStore ?_); refine stA H ?_ (hT := by first | exact rStm8 | exact rRat) (hu := by (repeat (first | apply Upd.head | apply Upd.tail | apply Upd.app | assumption))); clear H; intro _ H)
          | ((with_reducible refine isLoad ?_); refine ldA H ?_ (hT := by first | exact rStm8 | exact rWks))
          | ((with_reducible refine isSlc ?_); refine bsA 23 [.slice B1 l1.length c1] 1 H ?_; clear H; intro gz _ H))
      exact bodyPost_ret (results_H H Tryz.results23 (by exact rStm8) rfl (by (repeat (first | exact List.Mem.head _ | refine List.Mem.tail _ ?_ | refine List.mem_append_right _ ?_ | assumption))) (by rfl)) rfl ⟨⟨6, ⟨#[]⟩, ⟨#[]⟩, none, 0, .slice (some ⟨gz, 0, none⟩) 1 1⟩, .mk 6 ⟨#[]⟩ ⟨#[]⟩ none 0 [l1], S1, (gz, 23, [.slice B1 l1.length c1]) :: E1, rfl, HS1.out, fin1 H.out (by (repeat (first | exact List.Sublist.refl _ | refine List.Sublist.cons_cons _ ?_ | refine List.Sublist.trans ?_ (List.sublist_append_right _ _) | refine List.Sublist.cons _ ?_))), RSt.one_ (.head _) (HR1.out.mono (fun x hx => .tail _ hx)) (by omega) (by omega),
        .inr (.inr (.inr (.inr (.inr ⟨rfl, rfl, rfl, one_mem HV1.out, .inl ⟨rfl, rfl, rfl⟩⟩))))⟩
    · have x20p : ¬ (x2 = 0) := h2
      have x20d : decide (x2 = 0) = false := decide_eq_false x20p
      obtain ⟨r7, hr7⟩ : ∃ r, S.sn.sn.sn.nx 2 = r := ⟨_, rfl⟩
      have hbr7 := S.sn.sn.sn.nx_bd 2 (by omega)
      rw [hr7] at hbr7
      obtain ⟨hbr70, hbr71⟩ := hbr7
      have HVr7 := Lib.hid hr7
      clear hr7
      have hwr : IntKind.i64.wrap (1 + r7) = 1 + r7 := IntWalk.i64_in _ (by omega)
      go_wp2_with (first
          | go_skip
          | ((with_reducible refine isAlloc ?_); refine alA H ?_ (hz := zStm8); clear H; intro q9 _ H)
          | ((with_reducible refine isStore ?_); refine stA H ?_ (hT := by first | exact rStm8 | exact rRat) (hu := by (repeat (first | apply Upd.head | apply Upd.tail | apply Upd.app | assumption))); clear H; intro _ H)
          | ((with_reducible refine isLoad ?_); refine ldA H ?_ (hT := by first | exact rStm8 | exact rWks)))
      replace H := Lib.hid (H.out.perm (List.perm_middle (l₁ := [_, _])))
      simp only [List.cons_append, List.nil_append] at H
      refine wp_region_Y 10 [.c (.pointer (some ⟨b, 0, none⟩)), .y, .c (.int .i64 (1 + r7)), .c (.agg #[.slice (some ⟨ga, 0, none⟩) na ca, .slice none 0 0, .slice (some ⟨gp, 0, none⟩) np cp, .slice (some ⟨gs, 0, none⟩) ns cc, .slice none 0 0, .bool false, .string ⟨#[]⟩, .string ⟨#[]⟩]), .c (.pointer (some ⟨b, 0, none⟩)), .c (.int .i64 p), .c (.int .i64 ((p : Int) + 1)), .y, .a, .y] ((q6, 86, [.int .i64 0, .string ⟨#[]⟩, .string ⟨#[]⟩, .bool false, .string ⟨#[]⟩, .string ⟨#[]⟩, .int .i64 0, .slice none 0 0]) :: (q, 35, [.slice (some ⟨ga, 0, none⟩) na ca, .slice none 0 0, .slice (some ⟨gp, 0, none⟩) np cp, .slice (some ⟨gs, 0, none⟩) ns cc, .slice none 0 0, .bool false, .string ⟨#[]⟩, .string ⟨#[]⟩]) :: m) H (by (repeat (first | exact List.Sublist.refl _ | refine List.Sublist.cons_cons _ ?_ | refine List.Sublist.trans ?_ (List.sublist_append_right _ _) | refine List.Sublist.cons _ ?_))) (by kernel_rfl) (by kernel_rfl) (by kernel_rfl) ?_
      simp only [List.take_succ_cons, List.take_zero, List.drop_succ_cons, List.drop_zero]
      refine wpY_c (by rfl) (by (first | exact wanted_none rfl | exact wanted_some rfl rfl)) (by intro W _; first | (go_simp; rfl) | (go_simp; done) | (trace_state; fail)) ?_
      (simp only [Act.put, List.setIfInBounds_toArray, List.set_cons_succ, List.set_cons_zero])
      refine wpY_y (by rfl) (by (first | exact wanted_none rfl | exact wanted_some rfl rfl)) (fun G F W HF hG => ?_)
      go_simp
      unfold upY
      refine Calls.mono (nextH_any (m' := ((b, 49, [S.sn.sn.sn.sn.v]) :: (q6, 86, [.int .i64 0, .string ⟨#[]⟩, .string ⟨#[]⟩, .bool false, .string ⟨#[]⟩, .string ⟨#[]⟩, .int .i64 0, .slice none 0 0]) :: (q, 35, [.slice (some ⟨ga, 0, none⟩) na ca, .slice none 0 0, .slice (some ⟨gp, 0, none⟩) np cp, .slice (some ⟨gs, 0, none⟩) ns cc, .slice none 0 0, .bool false, .string ⟨#[]⟩, .string ⟨#[]⟩]) :: m) ++ F) S.sn.sn.sn b 2 HF (Lib.hid (HS.out.next.next.next)) (Lib.hid (by (repeat (first | apply Upd.head | apply Upd.tail | assumption)))) (by omega) (by omega)) ?_
      rintro _ W2 ⟨rfl, h2⟩
      refine ⟨_, rfl, hG _ _ ((b, 49, [S.sn.sn.sn.sn.v]) :: (q6, 86, [.int .i64 0, .string ⟨#[]⟩, .string ⟨#[]⟩, .bool false, .string ⟨#[]⟩, .string ⟨#[]⟩, .int .i64 0, .slice none 0 0]) :: (q, 35, [.slice (some ⟨ga, 0, none⟩) na ca, .slice none 0 0, .slice (some ⟨gp, 0, none⟩) np cp, .slice (some ⟨gs, 0, none⟩) ns cc, .slice none 0 0, .bool false, .string ⟨#[]⟩, .string ⟨#[]⟩]) :: m) h2 (by (repeat (first | exact List.Sublist.refl _ | refine List.Sublist.cons_cons _ ?_ | refine List.Sublist.trans ?_ (List.sublist_append_right _ _) | refine List.Sublist.cons _ ?_))) ?_⟩
      clear HF hG h2
      rw [HVr7.out]
      (simp only [Act.put, List.setIfInBounds_toArray, List.set_cons_succ, List.set_cons_zero])
      refine wpY_c (by rfl) (by (first | exact wanted_none rfl | exact wanted_some rfl rfl)) (by intro W _; first | (go_simp; rfl) | (go_simp; done) | (trace_state; fail)) ?_
      (simp only [Act.put, List.setIfInBounds_toArray, List.set_cons_succ, List.set_cons_zero])
      refine wpY_load (by rfl) (by rfl) (by (first | exact wanted_none rfl | exact wanted_some rfl rfl)) rWks (by rfl) (by (repeat (first | exact List.Mem.head _ | refine List.Mem.tail _ ?_ | assumption))) (by first | rfl | ((simp only [List.drop, List.take]); rfl)) (by rfl) ?_
      (simp only [Act.put, List.setIfInBounds_toArray, List.set_cons_succ, List.set_cons_zero])
      refine wpY_c (by rfl) (by (first | exact wanted_none rfl | exact wanted_some rfl rfl)) (by intro W _; first | (go_simp; rfl) | (go_simp; done) | (trace_state; fail)) ?_
      (simp only [Act.put, List.setIfInBounds_toArray, List.set_cons_succ, List.set_cons_zero])
      refine wpY_c (by rfl) (by (first | exact wanted_none rfl | exact wanted_some rfl rfl)) (by intro W _; first | (go_simp; rfl) | (go_simp; done) | (trace_state; fail)) ?_
      (simp only [Act.put, List.setIfInBounds_toArray, List.set_cons_succ, List.set_cons_zero])
      refine wpY_c (by rfl) (by (first | exact wanted_none rfl | exact wanted_some rfl rfl)) (by intro W _; first | (go_simp; rfl) | (go_simp; done) | (trace_state; fail)) ?_
      (simp only [Act.put, List.setIfInBounds_toArray, List.set_cons_succ, List.set_cons_zero])
      refine wpY_y (by rfl) (by (first | exact wanted_none rfl | exact wanted_some rfl rfl)) (fun G F W HF hG => ?_)
      go_simp
      unfold upY
      refine Calls.mono (HC.out w0 W (((q6, 86, [.int .i64 0, .string ⟨#[]⟩, .string ⟨#[]⟩, .bool false, .string ⟨#[]⟩, .string ⟨#[]⟩, .int .i64 0, .slice none 0 0]) :: (q, 35, [.slice (some ⟨ga, 0, none⟩) na ca, .slice none 0 0, .slice (some ⟨gp, 0, none⟩) np cp, .slice (some ⟨gs, 0, none⟩) ns cc, .slice none 0 0, .bool false, .string ⟨#[]⟩, .string ⟨#[]⟩]) :: m) ++ F) E0 b S.sn.sn.sn.sn _ HF (Lib.hid (HS.out.next.next.next.next)) WV (Lib.hid (fun x hx => by have := HE.out x hx; simp [this]))) ?_
      rintro _ W2 ⟨x1, l1, S1, E1, rfl, hS1, h2, hR1, hV1⟩
      obtain ⟨B1, c1, rfl⟩ := hR1.shape
      refine ⟨_, rfl, hG _ _ ((b, 49, [S1.v]) :: (E1 ++ ((q6, 86, [.int .i64 0, .string ⟨#[]⟩, .string ⟨#[]⟩, .bool false, .string ⟨#[]⟩, .string ⟨#[]⟩, .int .i64 0, .slice none 0 0]) :: (q, 35, [.slice (some ⟨ga, 0, none⟩) na ca, .slice none 0 0, .slice (some ⟨gp, 0, none⟩) np cp, .slice (some ⟨gs, 0, none⟩) ns cc, .slice none 0 0, .bool false, .string ⟨#[]⟩, .string ⟨#[]⟩]) :: m))) (by simpa only [List.cons_append, List.append_assoc] using h2) (by (repeat (first | exact List.Sublist.refl _ | refine List.Sublist.cons_cons _ ?_ | refine List.Sublist.trans ?_ (List.sublist_append_right _ _) | refine List.Sublist.cons _ ?_))) ?_⟩
      have HS1 := Lib.hid hS1
      have HR1 := Lib.hid hR1
      have HV1 := Lib.hid hV1
      clear HF hG h2 hS1 hR1 hV1
      (simp only [Act.put, List.setIfInBounds_toArray, List.set_cons_succ, List.set_cons_zero])
      refine wpY_V 23 ([.slice B1 l1.length c1]) 1 (by rfl) (by rfl) (by intro W; kernel_rfl) ?_
      intro gz
      (simp only [Act.put, List.setIfInBounds_toArray, List.set_cons_succ, List.set_cons_zero])
      refine wpY_p (by rfl) (by (repeat (first | exact List.Sublist.refl _ | refine List.Sublist.cons_cons _ ?_ | refine List.Sublist.trans ?_ (List.sublist_append_right _ _) | refine List.Sublist.cons _ ?_))) (by (first | exact wanted_none rfl | exact wanted_some rfl rfl)) (by intro W; first | (go_simp; rfl) | go_simp) ?_
      (simp only [Act.put, List.setIfInBounds_toArray, List.set_cons_succ, List.set_cons_zero])
      refine wpY_nil ?_
      clear H
      intro _ H
      go_wp2_with (first
          | go_skip
          | ((with_reducible refine isAlloc ?_); refine alA H ?_ (hz := zStm8); clear H; intro q9 _ H)
          | ((with_reducible refine isStore ?_); refine stA H ?_ (hT := by first | exact rStm8 | exact rRat) (hu := by (repeat (first | apply Upd.head | apply Upd.tail | apply Upd.app | assumption))); clear H; intro _ H)
          | ((with_reducible refine isLoad ?_); refine ldA H ?_ (hT := by first | exact rStm8 | exact rWks)))
      exact bodyPost_ret (results_H H Tryz.results23 (by exact rStm8) rfl (by (repeat (first | exact List.Mem.head _ | refine List.Mem.tail _ ?_ | refine List.mem_append_right _ ?_ | assumption))) (by rfl)) rfl ⟨⟨7, ⟨#[]⟩, ⟨#[]⟩, none, (1 + r7), .slice (some ⟨gz, 0, none⟩) 1 1⟩, .mk 7 ⟨#[]⟩ ⟨#[]⟩ none (1 + r7) [l1], S1, (gz, 23, [.slice B1 l1.length c1]) :: E1, rfl, HS1.out, fin1 H.out (by (repeat (first | exact List.Sublist.refl _ | refine List.Sublist.cons_cons _ ?_ | refine List.Sublist.trans ?_ (List.sublist_append_right _ _) | refine List.Sublist.cons _ ?_))), RSt.one_ (.head _) (HR1.out.mono (fun x hx => .tail _ hx)) (by omega) (by omega),
        .inr (.inr (.inr (.inr (.inr ⟨rfl, rfl, rfl, one_mem HV1.out, .inr (.inl ⟨rfl, ⟨by show 1 ≤ 1 + r7; omega, by show 1 + r7 ≤ 2; omega⟩, rfl⟩)⟩))))⟩
end Go.Proofs.YtaiokjhjakdhaaaGreatDoor

namespace Go.Proofs.YtaiokjhjakdhaaaGreatDoor
open Go.RowKit
set_option linter.unusedVariables false
set_option maxRecDepth 100000

theorem i8 : InfoT Tryz.prog 86 8 112 := InfoT.of zStm8 (by kernel_rfl) rfl
theorem mv_perm {s q : Nat × TypeId × List Value} {E1 R T : Ents} : (s :: (E1 ++ (q :: (R ++ T)))).Perm (s :: q :: (R ++ (E1 ++ T))) :=
  .cons _ (List.perm_middle.trans (.cons _ (List.perm_append_comm_assoc _ _ _)))
theorem RSt.shape8 {E : Ents} {d : Nat} {s : Stm} {v : Sv} (h : RSt E d s v) : ∃ k a b wd n B m c, v = ⟨k, a, b, wd, n, .slice B m c⟩ := by
  obtain ⟨B, c, hb⟩ := h.shape
  obtain ⟨k, a, b, wd, n, bv⟩ := v
  simp only at hb
  exact ⟨k, a, b, wd, n, B, _, c, by rw [hb]⟩
theorem kk_of {x : Int} (h0 : 0 ≤ x) (h : x < 2) : ∃ k : Nat, 1 + x = k ∧ 1 ≤ k ∧ k ≤ 2 := ⟨(1 + x).toNat, by omega, by omega, by omega⟩
set_option maxHeartbeats 4000000 in
theorem stmtsJ_of (na np ns p d : Nat) (hp : p ≤ 3) (hC : StmJ na np ns p d) : StsJ na np ns p d := by
  have HC := Lib.hid hC
  clear hC
  intro w0 w m E0 b S cs H HS WV HE
  obtain ⟨av, pv, sv, rfl, RA, RP, RS⟩ := id WV.out
  obtain ⟨n1, e1⟩ : ∃ n, (armN.take na).length = n := ⟨_, rfl⟩
  obtain ⟨n2, e2⟩ : ∃ n, (partN.take np).length = n := ⟨_, rfl⟩
  obtain ⟨n3, e3⟩ : ∃ n, ((slotN.take ns).map sltOf).length = n := ⟨_, rfl⟩
  rw [e1] at RA
  rw [e2] at RP
  rw [e3] at RS
  obtain ⟨Ba, ca, rfl, _⟩ := RA.shape
  obtain ⟨Bp, cp, rfl, _⟩ := RP.shape
  obtain ⟨Bs, cc, rfl, _⟩ := RS.shape
  clear RA RP RS e1 e2 e3
  obtain ⟨x2, hx2⟩ : ∃ r, S.nx 2 = r := ⟨_, rfl⟩
  have hbx2 := S.nx_bd 2 (by omega)
  rw [hx2] at hbx2
  obtain ⟨hbx20, hbx21⟩ := hbx2
  have HVx2 := Lib.hid hx2
  clear hx2
  obtain ⟨k, hk, hk1, hk2⟩ := kk_of hbx20 hbx21
  go_enter Tryz.func11, Tryz.ntmps11
  go_wp2_with (first
      | go_skip
      | ((with_reducible refine isBox ?_); refine bxA H ?_; clear H; intro q _ H))
  go_at_call 12
  refine Calls.mono (nextH_any S b 2 H HS (Lib.hid (by (repeat (first | apply Upd.head | apply Upd.tail | assumption)))) (by omega) (by omega)) ?_
  rintro _ _ ⟨rfl, h2⟩
  replace H := Lib.hid h2
  clear h2
  rw [HVx2.out]
  go_wp2_with (first
      | go_skip
      | ((with_reducible refine isBox ?_); refine bxA H ?_; clear H; intro q _ H))
  replace H := Lib.hid (H.out.perm (List.Perm.swap _ _ _))
  go_loopw [7, 11] (fun v_ i_ wr => ∃ (j : Nat) (ls : List Stm) (svs : List Sv) (S1 : Sd) (E : Ents) (cur : List Value), i_ = .int .i64 j ∧ j ≤ k ∧ ls.length = j ∧ Hid (S1.ok w0) ∧ Hid (RowV 8 v_ j (flat Sv.cells svs) cur) ∧ Hid (All2 (RSt E d) ls svs) ∧ Hid (∀ x ∈ ls, VSt na np ns d x) ∧ Hid (Hp w0 wr ((b, 49, [S1.v]) :: (q, 35, [.slice Ba n1 ca, .slice none 0 0, .slice Bp n2 cp, .slice Bs n3 cc, .slice none 0 0, .bool false, .string ⟨#[]⟩, .string ⟨#[]⟩]) :: (rowE v_ 86 cur ++ (E ++ m))))) (fun _ i_ _ => k - (intOf i_).toNat)
  case atStart => exact ⟨0, [], [], S.sn, [], [], rfl, by omega, rfl, Lib.hid HS.out.next, Lib.hid (RowV.nil 8), Lib.hid All2.nil, Lib.hid (fun x hx => by cases hx), H⟩
  case round =>
    clear H HS
    obtain ⟨j, ls, svs, S1, E, cur, rfl, hj, hlen, HS, R, R2, HV, H⟩ := hrel
    by_cases hlt : j < k
    · go_wp2_with (first
          | go_skip
          | ((with_reducible refine isLoad ?_); refine ldA H ?_ (hT := by first | exact rStm8 | exact rWks))
          | ((with_reducible refine isSlc ?_); refine bsA 86 (Sv.cells ⟨vk, va, vb, vw, vn, .slice B2 m2 c2⟩) 1 H ?_; clear H; intro gz _ H)
          | ((with_reducible refine isApp ?_); refine wpList_appH [(gz, 86, _), (b, 49, _), (q, 35, _)] (E1 ++ (E ++ m)) H R (by rfl) i8 (by decide) Tryz.underlying23 (by rfl) (by rfl) (by rfl) (by rfl) (.head _) (by rfl) (by rfl) (by omega) (by simp only [maxLen]; omega) (by omega) ?_; clear H R; intro _ _ _ R H))
      go_at_call 23
      refine Calls.mono (HC.out w0 _ _ E0 b S1 _ H HS WV (Lib.hid (fun x hx => .tail _ (List.mem_append_right _ (List.mem_append_right _ (HE.out x hx)))))) ?_
      rintro _ _ ⟨v, s, S2, E1, rfl, hS2, h2, hR, hVs⟩
      replace H := Lib.hid (h2.perm mv_perm)
      obtain ⟨vk, va, vb, vw, vn, B2, m2, c2, rfl⟩ := hR.shape8
      have HS2 := Lib.hid hS2
      have HR := Lib.hid hR
      have HVs := Lib.hid hVs
      clear h2 hS2 hR hVs HS
      unfold Sv.cells
      go_wp2_with (first
          | go_skip
          | ((with_reducible refine isLoad ?_); refine ldA H ?_ (hT := by first | exact rStm8 | exact rWks))
          | ((with_reducible refine isSlc ?_); refine bsA 86 (Sv.cells ⟨vk, va, vb, vw, vn, .slice B2 m2 c2⟩) 1 H ?_; clear H; intro gz _ H)
          | ((with_reducible refine isApp ?_); refine wpList_appH [(gz, 86, _), (b, 49, _), (q, 35, _)] (E1 ++ (E ++ m)) H R (by rfl) i8 (by decide) Tryz.underlying23 (by rfl) (by rfl) (by rfl) (by rfl) (.head _) (by rfl) (by rfl) (by omega) (by simp only [maxLen]; omega) (by omega) ?_; clear H R; intro _ _ _ R H))
      go_roundw
      case rel => first | exact ⟨j + 1, ls ++ [s], svs ++ [⟨vk, va, vb, vw, vn, .slice B2 m2 c2⟩], S2, E1 ++ E, _, by go_num, by omega, by simp [hlen], HS2, by rw [flat_append, flat_one]; exact R, Lib.hid ((R2.out.mono fun _ _ h => h.mono fun x hx => List.mem_append_right _ hx).snoc (HR.out.mono fun x hx => List.mem_append_left _ hx)), Lib.hid (fun x hx => by rcases List.mem_append.1 hx with hx | hx; exact HV.out x hx; obtain rfl := List.mem_singleton.1 hx; exact HVs.out), by rw [List.append_assoc]; exact Lib.hid H.out.drop⟩ | exact ⟨_, _, _, _, ⟨j + 1, ls ++ [s], svs ++ [⟨vk, va, vb, vw, vn, .slice B2 m2 c2⟩], S2, E1 ++ E, _, by go_num, by omega, by simp [hlen], HS2, by rw [flat_append, flat_one]; exact R, Lib.hid ((R2.out.mono fun _ _ h => h.mono fun x hx => List.mem_append_right _ hx).snoc (HR.out.mono fun x hx => List.mem_append_left _ hx)), Lib.hid (fun x hx => by rcases List.mem_append.1 hx with hx | hx; exact HV.out x hx; obtain rfl := List.mem_singleton.1 hx; exact HVs.out), by rw [List.append_assoc]; exact Lib.hid H.out.drop⟩, rfl, rfl⟩ | (trace_state; fail)
      case measure => simp [intOf]; omega
    · go_wp2_with (first
          | go_skip)
      go_ret
      obtain rfl : j = k := by omega
      refine ⟨_, ls, S1, rowE _ 86 cur ++ E, rfl, HS.out, ?_, ⟨svs, ⟨cur, by rw [← R2.out.1, hlen]; exact R.out, fun x hx => List.mem_append_left _ hx⟩, R2.out.mono fun _ _ h => h.mono fun x hx => List.mem_append_right _ hx⟩, ⟨by omega, by omega⟩, HV.out⟩
      rw [List.append_assoc]
      exact H.out.sub (List.Sublist.cons_cons _ (List.Sublist.cons _ (List.Sublist.refl _)))
end Go.Proofs.YtaiokjhjakdhaaaGreatDoor

namespace Go.Proofs.YtaiokjhjakdhaaaGreatDoor
open Go.RowKit
set_option linter.unusedVariables false
set_option maxRecDepth 100000

theorem zJob : (Tryz.prog.info? 25).bind (·.zero) = some (.agg #[.string ⟨#[]⟩, .slice none 0 0]) := by kernel_rfl
/-- The contract of gantkeep4.stmts at the top. -/
theorem stmtsJ_top (na np ns : Nat) (hna : 1 ≤ na ∧ na ≤ 2) (hnp : 1 ≤ np ∧ np ≤ 2) (hns : 1 ≤ ns ∧ ns ≤ 2) : StsJ na np ns 1 3 :=
  stmtsJ_of na np ns 1 3 (by decide) (stmtJ_inner na np ns 2 1 hna hnp hns (by decide) (by decide) (stmtsJ_of na np ns 2 2 (by decide) (stmtJ_inner na np ns 1 2 hna hnp hns (by decide) (by decide) (stmtsJ_of na np ns 3 1 (by decide) (stmtJ_leaf na np ns 0 hna hnp hns)))))
set_option maxHeartbeats 4000000 in
theorem Job_any (na np ns : Nat) (hna : 1 ≤ na ∧ na ≤ 2) (hnp : 1 ≤ np ∧ np ≤ 2) (hns : 1 ≤ ns ∧ ns ≤ 2) (w0 w : World) (m E0 : Ents) (S : Sd) (cs : List Value) (H : Hid (Hp w0 w m)) (HS : Hid (S.ok w0)) (WV : Hid (WkV E0 (armN.take na) (partN.take np) ((slotN.take ns).map sltOf) cs)) (HE : Hid (∀ x ∈ E0, x ∈ m)) :
    Calls Tryz.prog 5 #[.agg cs.toArray, S.v] w fun e w' => ∃ (x : Value) (l : List Stm) (E : Ents), e = .returned (.agg #[.string ⟨#[116, 97, 115, 107]⟩, x]) ∧ Hp w0 w' (E ++ m) ∧ RSs E 3 l x ∧ VSs na np ns 3 l := by
  have HC := Lib.hid (stmtsJ_top na np ns hna hnp hns)
  clear hna hnp hns
  obtain ⟨av, pv, sv, rfl, RA, RP, RS⟩ := id WV.out
  obtain ⟨n1, e1⟩ : ∃ n, (armN.take na).length = n := ⟨_, rfl⟩
  obtain ⟨n2, e2⟩ : ∃ n, (partN.take np).length = n := ⟨_, rfl⟩
  obtain ⟨n3, e3⟩ : ∃ n, ((slotN.take ns).map sltOf).length = n := ⟨_, rfl⟩
  rw [e1] at RA
  rw [e2] at RP
  rw [e3] at RS
  obtain ⟨Ba, ca, rfl, _⟩ := RA.shape
  obtain ⟨Bp, cp, rfl, _⟩ := RP.shape
  obtain ⟨Bs, cc, rfl, _⟩ := RS.shape
  clear RA RP RS e1 e2 e3
  obtain ⟨Av, nv, cv, hsv⟩ : ∃ A n c, S.v = .slice A n c := ⟨_, _, _, rfl⟩
  have HSV := Lib.hid hsv
  rw [hsv]
  clear hsv
  go_enter Tryz.func5, Tryz.ntmps5
  go_wp2_with (first
      | go_skip
      | ((with_reducible refine isLoad ?_); refine ldA H ?_ (hT := by first | exact rWks | exact rJob))
      | ((with_reducible refine isStore ?_); refine stA H ?_ (hT := rJob) (hu := by (repeat (first | apply Upd.head | apply Upd.tail | apply Upd.app | assumption))); clear H; intro _ H)
      | ((with_reducible refine isBox ?_); refine bxA H ?_; clear H; intro q _ H)
      | ((with_reducible refine isAlloc ?_); refine alA H ?_ (hz := zJob); clear H; intro q4 _ H))
  go_at_call 11
  refine Calls.mono (HC.out w0 _ _ E0 _ S _ (by rw [HSV.out]; exact H) HS WV (Lib.hid (fun x hx => .tail _ (.tail _ (HE.out x hx))))) ?_
  rintro _ _ ⟨x, l, S1, E1, rfl, hS1, h2, hR, hV⟩
  replace H := Lib.hid h2
  obtain ⟨B1, c1, rfl⟩ := hR.shape
  have HR := Lib.hid hR
  have HV := Lib.hid hV
  clear h2 hR hV hS1
  go_wp2_with (first
      | go_skip
      | ((with_reducible refine isLoad ?_); refine ldA H ?_ (hT := by first | exact rWks | exact rJob))
      | ((with_reducible refine isStore ?_); refine stA H ?_ (hT := rJob) (hu := by (repeat (first | apply Upd.head | apply Upd.tail | apply Upd.app | assumption))); clear H; intro _ H)
      | ((with_reducible refine isBox ?_); refine bxA H ?_; clear H; intro q _ H)
      | ((with_reducible refine isAlloc ?_); refine alA H ?_ (hz := zJob); clear H; intro q4 _ H))
  exact bodyPost_ret (results_H H Tryz.results5 (by exact rJob) rfl (by (repeat (first | exact List.Mem.head _ | refine List.Mem.tail _ ?_ | refine List.mem_append_right _ ?_ | assumption))) (by rfl)) rfl ⟨_, l, E1, rfl, H.out.sub (by (refine List.Sublist.cons _ ((List.Sublist.refl _).append (.cons _ (.cons _ (List.Sublist.refl _)))))), HR.out, HV.out⟩
end Go.Proofs.YtaiokjhjakdhaaaGreatDoor

namespace Go.Proofs.YtaiokjhjakdhaaaGreatDoor
open Go.RowKit
set_option linter.unusedVariables false
set_option maxRecDepth 100000

theorem flatMap_take {α β : Type} {f : α → List β} {l : List α} {j : Nat} {s : α} (h : l[j]? = some s) : (l.take (j + 1)).flatMap f = (l.take j).flatMap f ++ f s := by
  obtain ⟨hj, rfl⟩ := List.getElem?_eq_some_iff.1 h
  rw [List.take_succ_eq_append_getElem hj, List.flatMap_append, List.flatMap_singleton]
theorem flatMap_take_le {α β : Type} (f : α → List β) (l : List α) (j : Nat) : ((l.take j).flatMap f).length ≤ (l.flatMap f).length := by
  conv => rhs; rw [← List.take_append_drop j l, List.flatMap_append, List.length_append]
  omega
theorem RSt.shape9 {E : Ents} {d : Nat} {s : Stm} {v : Sv} (h : RSt E d s v) : ∃ k a b wd n B c, v = ⟨k, a, b, wd, n, .slice B s.bl.length c⟩ ∧ k = s.k := by
  obtain ⟨B, c, hb⟩ := h.shape
  obtain ⟨k, a, b, wd, n, bv⟩ := v
  simp only at hb
  refine ⟨k, a, b, wd, n, B, c, by rw [hb], ?_⟩
  cases d with
  | zero => exact h.elim
  | succ d => exact h.2.1
end Go.Proofs.YtaiokjhjakdhaaaGreatDoor

namespace Go.Proofs.YtaiokjhjakdhaaaGreatDoor
open Go.RowKit
set_option linter.unusedVariables false
set_option maxRecDepth 100000

end Go.Proofs.YtaiokjhjakdhaaaGreatDoor

namespace Go.Proofs.YtaiokjhjakdhaaaGreatDoor
open Go.RowKit
set_option linter.unusedVariables false
set_option maxRecDepth 100000

end Go.Proofs.YtaiokjhjakdhaaaGreatDoor

namespace Go.Proofs.YtaiokjhjakdhaaaGreatDoor
open Go.RowKit
set_option linter.unusedVariables false
set_option maxRecDepth 100000

/-- A statement of the maker's without blocks. -/
def Leaf (na np ns : Nat) (s : Stm) : Prop :=
  (s.k = 1 ∧ s.a ∈ partN.take np ∧ s.b ∈ slotN.take ns ∧ (s.wd = none ∨ ∃ q : Nat, 4 ≤ q ∧ q ≤ 8 ∧ s.wd = some (ofQ 1 q)) ∧ s.n = 0 ∧ s.bl = []) ∨
  (s.k = 2 ∧ s.a ∈ partN.take np ∧ s.b ∈ armN.take na ∧ s.wd = none ∧ s.n = 0 ∧ s.bl = []) ∨
  (s.k = 3 ∧ s.a ∈ armN.take na ∧ s.b = ⟨#[]⟩ ∧ s.wd = none ∧ s.n = 0 ∧ s.bl = []) ∨
  (s.k = 4 ∧ s.a ∈ partN.take np ∧ s.b = ⟨#[]⟩ ∧ s.wd = none ∧ s.n = 0 ∧ s.bl = []) ∨
  (s.k = 5 ∧ s.a = ⟨#[]⟩ ∧ s.b = ⟨#[]⟩ ∧ s.wd = none ∧ (1 ≤ s.n ∧ s.n ≤ 3) ∧ s.bl = [])
/-- A goal of such a statement. -/
def GoalOk (na np ns : Nat) (g : Gl) : Prop :=
  (g.k = 1 ∧ (0 ≤ g.a ∧ g.a < np) ∧ (0 ≤ g.b ∧ g.b < ns) ∧ g.n = 0) ∨ (g.k = 2 ∧ (0 ≤ g.a ∧ g.a < np) ∧ (0 ≤ g.b ∧ g.b < na) ∧ g.n = 0) ∨
  (g.k = 3 ∧ (0 ≤ g.a ∧ g.a < na) ∧ g.b = -1 ∧ g.n = 0) ∨ (g.k = 4 ∧ (0 ≤ g.a ∧ g.a < np) ∧ g.b = -1 ∧ g.n = 0) ∨ (g.k = 5 ∧ g.a = -1 ∧ g.b = -1 ∧ (1 ≤ g.n ∧ g.n ≤ 3))
def wq (q : Nat) : Option Rat := if q = 0 then none else some (ofQ 1 q)
def E0 : ByteArray := ⟨#[]⟩
theorem bind_put : ∀ (na np ns : Fin 3) (i j : Fin 2) (q : Fin 9), 1 ≤ na.val → 1 ≤ np.val → 1 ≤ ns.val → i.val < np.val → j.val < ns.val → (q.val = 0 ∨ 4 ≤ q.val) →
    plainE 1 (partN.getD i E0) (slotN.getD j E0) (wq q) 0 0 = 0 ∧ (bindP (armN.take na) (partN.take np) ((slotN.take ns).map sltOf) 1 (partN.getD i E0) (slotN.getD j E0) (wq q) 0 0).2 = 0 ∧
    (let g := (bindP (armN.take na) (partN.take np) ((slotN.take ns).map sltOf) 1 (partN.getD i E0) (slotN.getD j E0) (wq q) 0 0).1; g.k = 1 ∧ g.a = i.val ∧ g.b = j.val ∧ g.n = 0) ∧
    (bindP (armN.take na) [] ((slotN.take ns).map sltOf) 1 (partN.getD i E0) (slotN.getD j E0) (wq q) 0 0).2 = 16 := by decide +kernel
theorem bind_hold : ∀ (na np ns : Fin 3) (i j : Fin 2), 1 ≤ na.val → 1 ≤ np.val → 1 ≤ ns.val → i.val < np.val → j.val < na.val →
    plainE 2 (partN.getD i E0) (armN.getD j E0) none 0 0 = 0 ∧ (bindP (armN.take na) (partN.take np) ((slotN.take ns).map sltOf) 2 (partN.getD i E0) (armN.getD j E0) none 0 0).2 = 0 ∧
    (let g := (bindP (armN.take na) (partN.take np) ((slotN.take ns).map sltOf) 2 (partN.getD i E0) (armN.getD j E0) none 0 0).1; g.k = 2 ∧ g.a = i.val ∧ g.b = j.val ∧ g.n = 0) ∧
    (bindP (armN.take na) [] ((slotN.take ns).map sltOf) 2 (partN.getD i E0) (armN.getD j E0) none 0 0).2 = 16 := by decide +kernel
theorem bind_free : ∀ (na np ns : Fin 3) (i : Fin 2), 1 ≤ na.val → 1 ≤ np.val → 1 ≤ ns.val → i.val < na.val →
    plainE 3 (armN.getD i E0) E0 none 0 0 = 0 ∧ (bindP (armN.take na) (partN.take np) ((slotN.take ns).map sltOf) 3 (armN.getD i E0) E0 none 0 0).2 = 0 ∧
    (let g := (bindP (armN.take na) (partN.take np) ((slotN.take ns).map sltOf) 3 (armN.getD i E0) E0 none 0 0).1; g.k = 3 ∧ g.a = i.val ∧ g.b = -1 ∧ g.n = 0) ∧
    (bindP (armN.take na) [] ((slotN.take ns).map sltOf) 3 (armN.getD i E0) E0 none 0 0).2 = 0 := by decide +kernel
theorem bind_see : ∀ (na np ns : Fin 3) (i : Fin 2), 1 ≤ na.val → 1 ≤ np.val → 1 ≤ ns.val → i.val < np.val →
    plainE 4 (partN.getD i E0) E0 none 0 0 = 0 ∧ (bindP (armN.take na) (partN.take np) ((slotN.take ns).map sltOf) 4 (partN.getD i E0) E0 none 0 0).2 = 0 ∧
    (let g := (bindP (armN.take na) (partN.take np) ((slotN.take ns).map sltOf) 4 (partN.getD i E0) E0 none 0 0).1; g.k = 4 ∧ g.a = i.val ∧ g.b = -1 ∧ g.n = 0) ∧
    (bindP (armN.take na) [] ((slotN.take ns).map sltOf) 4 (partN.getD i E0) E0 none 0 0).2 = 16 := by decide +kernel
theorem bind_wait : ∀ (na np ns n : Fin 4), 1 ≤ na.val → 1 ≤ np.val → 1 ≤ ns.val → 1 ≤ n.val →
    plainE 5 E0 E0 none n.val 0 = 0 ∧ (bindP (armN.take na) (partN.take np) ((slotN.take ns).map sltOf) 5 E0 E0 none n.val 0).2 = 0 ∧
    (let g := (bindP (armN.take na) (partN.take np) ((slotN.take ns).map sltOf) 5 E0 E0 none n.val 0).1; g.k = 5 ∧ g.a = -1 ∧ g.b = -1 ∧ g.n = n.val) ∧
    (bindP (armN.take na) [] ((slotN.take ns).map sltOf) 5 E0 E0 none n.val 0).2 = 0 := by decide +kernel
theorem mem_take2 {x : ByteArray} {l : List ByteArray} {n : Nat} (hl : l.length = 2) (h : x ∈ l.take n) : ∃ i : Fin 2, i.val < n ∧ x = l.getD i E0 := by
  obtain ⟨i, hi⟩ := List.mem_iff_getElem?.1 h
  rw [List.getElem?_take] at hi
  split at hi
  · rename_i h1
    have h2 := (List.getElem?_eq_some_iff.1 hi).1
    exact ⟨⟨i, by omega⟩, h1, by simp [List.getD, hi]⟩
  · cases hi
theorem rngI {x y n : Int} (h : x = y) (h1 : 0 ≤ y ∧ y < n) : 0 ≤ x ∧ x < n := h ▸ h1
theorem rngJ {x y : Int} (h : x = y) (h1 : 1 ≤ y ∧ y ≤ 3) : 1 ≤ x ∧ x ≤ 3 := h ▸ h1
theorem leaf_bind {na np ns : Nat} (hna : 1 ≤ na ∧ na ≤ 2) (hnp : 1 ≤ np ∧ np ≤ 2) (hns : 1 ≤ ns ∧ ns ≤ 2) {s : Stm} (h : Leaf na np ns s) :
    plainE s.k s.a s.b s.wd s.n s.bl.length = 0 ∧ (∃ g, bindP (armN.take na) (partN.take np) ((slotN.take ns).map sltOf) s.k s.a s.b s.wd s.n s.bl.length = (g, 0) ∧ g.k = s.k ∧ GoalOk na np ns g) ∧
    (bindP (armN.take na) [] ((slotN.take ns).map sltOf) s.k s.a s.b s.wd s.n s.bl.length).2 = if s.k = 1 ∨ s.k = 2 ∨ s.k = 4 then 16 else 0 := by
  have pr : ∀ {α : Type} {x : α × Int}, x.2 = 0 → x = (x.1, 0) := fun {α x} h => by rw [← h]
  rcases h with ⟨h1, h2, h3, h4, h5, h6⟩ | ⟨h1, h2, h3, h4, h5, h6⟩ | ⟨h1, h2, h3, h4, h5, h6⟩ | ⟨h1, h2, h3, h4, h5, h6⟩ | ⟨h1, h2, h3, h4, h5, h6⟩
  · obtain ⟨i, hi, ei⟩ := mem_take2 rfl h2
    obtain ⟨j, hj, ej⟩ := mem_take2 rfl h3
    obtain ⟨q, hq, eq⟩ : ∃ q : Fin 9, (q.val = 0 ∨ 4 ≤ q.val) ∧ s.wd = wq q := by
      rcases h4 with h4 | ⟨q, h7, h8, h4⟩
      · exact ⟨⟨0, by decide⟩, .inl rfl, h4⟩
      · exact ⟨⟨q, by omega⟩, .inr h7, by rw [h4, wq, if_neg (by show ¬ q = 0; omega)]⟩
    have hb := bind_put ⟨na, by omega⟩ ⟨np, by omega⟩ ⟨ns, by omega⟩ i j q hna.1 hnp.1 hns.1 hi hj hq
    rw [h1, ei, ej, eq, h5, h6]
    obtain ⟨b1, b2, ⟨b3, b4, b5, b6⟩, b7⟩ := hb
    exact ⟨b1, ⟨_, pr b2, b3, .inl ⟨b3, rngI b4 ⟨by omega, by omega⟩, rngI b5 ⟨by omega, by omega⟩, b6⟩⟩, by rw [if_pos (.inl rfl)]; exact b7⟩
  · obtain ⟨i, hi, ei⟩ := mem_take2 rfl h2
    obtain ⟨j, hj, ej⟩ := mem_take2 rfl h3
    have hb := bind_hold ⟨na, by omega⟩ ⟨np, by omega⟩ ⟨ns, by omega⟩ i j hna.1 hnp.1 hns.1 hi hj
    rw [h1, ei, ej, h4, h5, h6]
    obtain ⟨b1, b2, ⟨b3, b4, b5, b6⟩, b7⟩ := hb
    exact ⟨b1, ⟨_, pr b2, b3, .inr (.inl ⟨b3, rngI b4 ⟨by omega, by omega⟩, rngI b5 ⟨by omega, by omega⟩, b6⟩)⟩, by rw [if_pos (.inr (.inl rfl))]; exact b7⟩
  · obtain ⟨i, hi, ei⟩ := mem_take2 rfl h2
    have hb := bind_free ⟨na, by omega⟩ ⟨np, by omega⟩ ⟨ns, by omega⟩ i hna.1 hnp.1 hns.1 hi
    rw [h1, ei, h3, h4, h5, h6]
    obtain ⟨b1, b2, ⟨b3, b4, b5, b6⟩, b7⟩ := hb
    exact ⟨b1, ⟨_, pr b2, b3, .inr (.inr (.inl ⟨b3, rngI b4 ⟨by omega, by omega⟩, b5, b6⟩))⟩, by rw [if_neg (by decide)]; exact b7⟩
  · obtain ⟨i, hi, ei⟩ := mem_take2 rfl h2
    have hb := bind_see ⟨na, by omega⟩ ⟨np, by omega⟩ ⟨ns, by omega⟩ i hna.1 hnp.1 hns.1 hi
    rw [h1, ei, h3, h4, h5, h6]
    obtain ⟨b1, b2, ⟨b3, b4, b5, b6⟩, b7⟩ := hb
    exact ⟨b1, ⟨_, pr b2, b3, .inr (.inr (.inr (.inl ⟨b3, rngI b4 ⟨by omega, by omega⟩, b5, b6⟩)))⟩, by rw [if_pos (.inr (.inr rfl))]; exact b7⟩
  · obtain ⟨n, hn⟩ : ∃ n : Fin 4, s.n = n.val := ⟨⟨s.n.toNat, by omega⟩, by show s.n = (s.n.toNat : Int); omega⟩
    have hb := bind_wait ⟨na, by omega⟩ ⟨np, by omega⟩ ⟨ns, by omega⟩ n hna.1 hnp.1 hns.1 (by omega)
    rw [h1, h2, h3, h4, h6, hn]
    obtain ⟨b1, b2, ⟨b3, b4, b5, b6⟩, b7⟩ := hb
    exact ⟨b1, ⟨_, pr b2, b3, .inr (.inr (.inr (.inr ⟨b3, b4, b5, rngJ b6 ⟨by omega, by omega⟩⟩)))⟩, by rw [if_neg (by decide)]; exact b7⟩
theorem VSt.cases {na np ns d : Nat} {s : Stm} (h : VSt na np ns (d + 1) s) : Leaf na np ns s ∨
    (s.a = ⟨#[]⟩ ∧ s.b = ⟨#[]⟩ ∧ s.wd = none ∧ (∀ b ∈ s.bl, VSs na np ns d b) ∧
      ((s.k = 6 ∧ s.n = 0 ∧ s.bl.length = 1) ∨ (s.k = 7 ∧ (1 ≤ s.n ∧ s.n ≤ 2) ∧ s.bl.length = 1) ∨ (s.k = 8 ∧ s.n = 0 ∧ s.bl.length = 2) ∨ (s.k = 9 ∧ s.n = 0 ∧ s.bl.length = 2))) := by
  unfold VSt at h
  rcases h with h | h | h | h | h | h
  · exact .inl (.inl h)
  · exact .inl (.inr (.inl h))
  · exact .inl (.inr (.inr (.inl h)))
  · exact .inl (.inr (.inr (.inr (.inl h))))
  · exact .inl (.inr (.inr (.inr (.inr h))))
  · exact .inr h
theorem Leaf.k {na np ns : Nat} {s : Stm} (h : Leaf na np ns s) : 1 ≤ s.k ∧ s.k ≤ 5 := by
  rcases h with h | h | h | h | h <;> (rw [h.1]; decide)
theorem Leaf.bl {na np ns : Nat} {s : Stm} (h : Leaf na np ns s) : s.bl = [] := by
  rcases h with h | h | h | h | h
  · exact h.2.2.2.2.2
  · exact h.2.2.2.2.2
  · exact h.2.2.2.2.2
  · exact h.2.2.2.2.2
  · exact h.2.2.2.2.2
/-- The most that a statement weighs. -/
def wMax : Nat → Int
  | 0 => 0
  | d + 1 => 1 + 4 * wMax d
theorem wMax_nn : ∀ d, 0 ≤ wMax d
  | 0 => by simp [wMax]
  | d + 1 => by have := wMax_nn d; unfold wMax; omega
theorem stmtsP_ok {f : Stm → Int × Int} {W : Int} : ∀ (l : List Stm) (sum : Int), (∀ s ∈ l, (f s).2 = 0 ∧ 1 ≤ (f s).1 ∧ (f s).1 ≤ W) → sum + l.length * W ≤ 100 → (stmtsP f l sum).2 = 0 ∧ sum ≤ (stmtsP f l sum).1 ∧ (stmtsP f l sum).1 ≤ sum + l.length * W
  | [], sum, _, _ => ⟨rfl, Int.le_refl _, by simp [stmtsP]⟩
  | s :: r, sum, h, hs => by
    obtain ⟨h1, h2, h3⟩ := h s (.head _)
    have hl : ((s :: r).length : Int) * W = r.length * W + W := by rw [List.length_cons]; push_cast; rw [Int.add_mul]; omega
    have hr : 0 ≤ (r.length : Int) * W := Int.mul_nonneg (by omega) (by omega)
    rw [hl] at hs
    unfold stmtsP
    rw [if_neg (by simpa using h1), if_neg (by omega)]
    obtain ⟨g1, g2, g3⟩ := stmtsP_ok (f := f) (W := W) r (sum + (f s).1) (fun x hx => h x (.tail _ hx)) (by omega)
    exact ⟨g1, by omega, by rw [hl]; omega⟩
theorem blocksP_ok {f : List Stm → Int × Int} {n W : Int} : ∀ (l : List (List Stm)) (sum : Int), (∀ b ∈ l, (f b).2 = 0 ∧ 0 ≤ (f b).1 ∧ (f b).1 * max n 1 ≤ W) → 0 ≤ W → sum + l.length * W ≤ 100 → (blocksP f n l sum).2 = 0 ∧ sum ≤ (blocksP f n l sum).1 ∧ (blocksP f n l sum).1 ≤ sum + l.length * W
  | [], sum, _, _, _ => ⟨rfl, Int.le_refl _, by simp [blocksP]⟩
  | s :: r, sum, h, hW, hs => by
    obtain ⟨h1, h2, h3⟩ := h s (.head _)
    have hl : ((s :: r).length : Int) * W = r.length * W + W := by rw [List.length_cons]; push_cast; rw [Int.add_mul]; omega
    have hr : 0 ≤ (r.length : Int) * W := Int.mul_nonneg (by omega) hW
    have hp : 0 ≤ (f s).1 * max n 1 := Int.mul_nonneg h2 (by omega)
    rw [hl] at hs
    unfold blocksP
    rw [if_neg (by simpa using h1), if_neg (by omega)]
    obtain ⟨g1, g2, g3⟩ := blocksP_ok (f := f) (n := n) (W := W) r (sum + (f s).1 * max n 1) (fun x hx => h x (.tail _ hx)) hW (by omega)
    exact ⟨g1, by omega, by rw [hl]; omega⟩
theorem VSt.w {na np ns : Nat} (hna : 1 ≤ na ∧ na ≤ 2) (hnp : 1 ≤ np ∧ np ≤ 2) (hns : 1 ≤ ns ∧ ns ≤ 2) : ∀ (d p : Nat) (s : Stm), d ≤ 3 → d + p ≤ 4 → VSt na np ns d s → (wSt d p s).2 = 0 ∧ 1 ≤ (wSt d p s).1 ∧ (wSt d p s).1 ≤ wMax d
  | 0, _, _, _, _, h => h.elim
  | d + 1, p, s, hd, hp, h => by
    have hW : wMax d ≤ 5 := by
      rcases (by omega : d = 0 ∨ d = 1 ∨ d = 2) with rfl | rfl | rfl <;> decide
    have h0 := wMax_nn d
    rcases h.cases with hl | ⟨ha, hb, hw, hbl, hk⟩
    · have hk := hl.k
      have := (leaf_bind hna hnp hns hl).1
      unfold wSt
      rw [if_neg (by omega), if_pos (by omega), this]
      exact ⟨rfl, by decide, by unfold wMax; show (1 : Int) ≤ _; omega⟩
    · have hB : ∀ b ∈ s.bl, (wSts (wSt d (p + 1)) (p + 1) b).2 = 0 ∧ 0 ≤ (wSts (wSt d (p + 1)) (p + 1) b).1 ∧ (wSts (wSt d (p + 1)) (p + 1) b).1 ≤ 2 * wMax d := fun b hb' => by
        obtain ⟨⟨g1, g2⟩, g3⟩ := hbl b hb'
        have hm : (b.length : Int) * wMax d ≤ 2 * wMax d := Int.mul_le_mul_of_nonneg_right (by omega) h0
        have := stmtsP_ok (f := wSt d (p + 1)) (W := wMax d) b 0 (fun x hx => VSt.w hna hnp hns d (p + 1) x (by omega) (by omega) (g3 x hx)) (by omega)
        unfold wSts
        rw [if_neg (by omega)]
        exact ⟨this.1, this.2.1, by omega⟩
      have hsh : shapeE s.k s.a s.b s.wd s.n s.bl.length = 0 := by
        rw [ha, hb, hw]
        rcases hk with ⟨k1, k2, k3⟩ | ⟨k1, k2, k3⟩ | ⟨k1, k2, k3⟩ | ⟨k1, k2, k3⟩
        · rw [k1, k2, k3]; decide
        · rw [k1, k3]
          rcases (by omega : s.n = 1 ∨ s.n = 2) with e | e <;> (rw [e]; decide)
        · rw [k1, k2, k3]; decide
        · rw [k1, k2, k3]; decide
      have hk6 : 6 ≤ s.k ∧ s.k ≤ 9 := by rcases hk with ⟨k1, _⟩ | ⟨k1, _⟩ | ⟨k1, _⟩ | ⟨k1, _⟩ <;> omega
      have hP : ∃ W : Int, 0 ≤ W ∧ s.bl.length * W ≤ 4 * wMax d ∧ ∀ b ∈ s.bl, (wSts (wSt d (p + 1)) (p + 1) b).1 * max s.n 1 ≤ W := by
        rcases hk with ⟨k1, k2, k3⟩ | ⟨k1, k2, k3⟩ | ⟨k1, k2, k3⟩ | ⟨k1, k2, k3⟩
        · refine ⟨4 * wMax d, by omega, by rw [k3]; omega, fun b hb' => ?_⟩
          have := hB b hb'
          rw [k2, show max (0 : Int) 1 = 1 from rfl]
          omega
        · refine ⟨4 * wMax d, by omega, by rw [k3]; omega, fun b hb' => ?_⟩
          have := hB b hb'
          rcases (by omega : s.n = 1 ∨ s.n = 2) with e | e
          · rw [e, show max (1 : Int) 1 = 1 from rfl]; omega
          · rw [e, show max (2 : Int) 1 = 2 from rfl]; omega
        · refine ⟨2 * wMax d, by omega, by rw [k3]; omega, fun b hb' => ?_⟩
          have := hB b hb'
          rw [k2, show max (0 : Int) 1 = 1 from rfl]
          omega
        · refine ⟨2 * wMax d, by omega, by rw [k3]; omega, fun b hb' => ?_⟩
          have := hB b hb'
          rw [k2, show max (0 : Int) 1 = 1 from rfl]
          omega
      obtain ⟨W, hW0, hW1, hW2⟩ := hP
      have := blocksP_ok (f := fun b => wSts (wSt d (p + 1)) (p + 1) b) (n := s.n) (W := W) s.bl 1 (fun b hb' => ⟨(hB b hb').1, (hB b hb').2.1, hW2 b hb'⟩) hW0 (by omega)
      unfold wSt
      rw [if_neg (by omega), if_neg (by omega), if_neg (by simpa using hsh)]
      exact ⟨this.1, this.2.1, by unfold wMax; omega⟩
/-- The job is in order, and weighs little. -/
theorem VSs.check {na np ns : Nat} (hna : 1 ≤ na ∧ na ≤ 2) (hnp : 1 ≤ np ∧ np ≤ 2) (hns : 1 ≤ ns ∧ ns ≤ 2) {nm : ByteArray} (hn : nameB nm = true) {l : List Stm} (h : VSs na np ns 3 l) : checkE 3 nm l = 0 ∧ (wSts (wSt 3 1) 1 l).1 ≤ 42 ∧ 0 ≤ (wSts (wSt 3 1) 1 l).1 := by
  obtain ⟨⟨h1, h2⟩, h3⟩ := h
  have hm : (l.length : Int) * 21 ≤ 42 := by omega
  have := stmtsP_ok (f := wSt 3 1) (W := 21) l 0 (fun x hx => VSt.w hna hnp hns 3 1 x (by decide) (by decide) (h3 x hx)) (by omega)
  unfold checkE wSts
  rw [if_pos hn, if_neg (by decide)]
  exact ⟨this.1, by omega, this.2.1⟩
end Go.Proofs.YtaiokjhjakdhaaaGreatDoor

namespace Go.Proofs.YtaiokjhjakdhaaaGreatDoor
open Go.RowKit
open Go.Maps (Keyed)
set_option linter.unusedVariables false
set_option maxRecDepth 100000

/-- A map of the call's own that reads as f, empty where there is no entry. -/
def SM (w : World) (b n : Nat) (f : Int → ByteArray) : Prop :=
  ∃ D : DataW Unit, w.ownsMap Tryz.prog 3 (plainElem (H := Unit) Tryz.prog 9) b n D ∧ ∀ x : Int, (Lit.int .i64 x).wf = true → D.atKey (.int .i64 x) (.lit (.string [])) = .lit (.string (f x).data.toList)
theorem kI : Keyed Tryz.prog 3 := Go.Maps.int_keyed Tryz.underlying3
theorem keyI {x : Int} (h : (Lit.int .i64 x).wf = true) : keyOf Tryz.prog 3 (.int .i64 x) = some (.int .i64 x) := by
  simp [keyOf, mapKey, Tryz.underlying3, h]
theorem SM.made (w : World) : SM (w.alloc (.map #[] 0)) w.heap.size 0 (fun _ => ⟨#[]⟩) :=
  ⟨_, World.ownsMap_made _ _ _ _, fun x _ => rfl⟩
theorem wpList_lookup_sm (w : World) {ops : Array Oper} {rest : List Oper} {o : Oper} {a : Act} {Q : Exit → Act → World → Prop}
    (hg : o.guard = none) (m x : Operand) (t : TypeId) (hop : o.op = Op.lookup t m x false) (ht : Tryz.prog.underlying t = some (.map 3 9)) (b n : Nat) (f : Int → ByteArray)
    (hm : a.eval m = .map (some b)) (hown : SM w b n f) (key : Int) (hx : a.eval x = .int .i64 key) (hkey : (Lit.int .i64 key).wf = true)
    (hK : wpList Tryz.prog ops Q rest (a.put o.dst (.string (f key))) w) : wpList Tryz.prog ops Q (o :: rest) a w := by
  refine wpList_plain hg fun K' hK' => ?_
  obtain ⟨D, h1, h2⟩ := hown
  have hz : (zeroValue 9).run Tryz.prog w = .ok (.string ⟨#[]⟩) w := by kernel_rfl
  obtain ⟨v, ps, hrun, hv⟩ := h1.lookup kI ht hz (plainElem_string (H := Unit) (s := ⟨#[]⟩) Tryz.underlying9 (by decide)) (keyI hkey)
  rw [h2 key hkey] at hv
  have hv2 : v = .string (f key) := by
    unfold plainElem at hv
    rw [Tryz.underlying9] at hv
    cases v <;> simp at hv
    obtain ⟨_, e⟩ := hv
    first
      | rw [ByteArray.ext (Array.ext' e)]
      | rw [ByteArray.ext (Array.ext' e.1)]
      | rw [ByteArray.ext e.1]
      | rw [e.1]
  subst hv2
  unfold Oper.wp
  simp [execOp, hop, hm, hx, hrun, Result.andThen]
  exact hK' _ _ hK
theorem wpList_update_sm (w : World) {ops : Array Oper} {rest : List Oper} {o : Oper} {a : Act} {Q : Exit → Act → World → Prop}
    (hg : o.guard = none) (m x v : Operand) (t : TypeId) (hop : o.op = Op.mapUpdate t m x v) (ht : Tryz.prog.underlying t = some (.map 3 9)) (b n : Nat) (f : Int → ByteArray)
    (hm : a.eval m = .map (some b)) (hown : SM w b n f) (hn : n < 1000) (key : Int) (hx : a.eval x = .int .i64 key) (hkey : (Lit.int .i64 key).wf = true) (c : ByteArray) (hc : c.size ≤ maxLen) (hv : a.eval v = .string c)
    (hK : ∀ w', SM w' b (n + 1) (fun y => if y = key then c else f y) → w.grownBy w' (some b) → wpList Tryz.prog ops Q rest (a.put o.dst undef) w') : wpList Tryz.prog ops Q (o :: rest) a w := by
  obtain ⟨D, h1, h2⟩ := hown
  refine wpList_mapUpdate_own w hg m x v t hop 3 9 kI ht _ b n D hm h1 (by unfold maxLen; omega) (.int .i64 key) (.string c) (.int .i64 key) hx hv (keyI hkey) (.lit (.string c.data.toList)) [] (plainElem_string Tryz.underlying9 hc) fun w' h3 h4 => ?_
  refine hK w' ⟨_, h3, fun y hy => ?_⟩ h4
  have hD : Go.Maps.IsMap D := by
    obtain ⟨es, cl, _, _, _, rfl⟩ := h1
    exact ⟨_, rfl⟩
  show _ = DataW.lit (.string (if y = key then c else f y).data.toList)
  by_cases e : y = key
  · subst e
    rw [if_pos rfl]
    exact Go.Maps.atKey_put_same hD (show WideAt.IsKeyLit (.int .i64 y) from trivial) _ _
  · rw [if_neg e, Go.Maps.atKey_put_other (by simpa using e)]
    exact h2 y hy

end Go.Proofs.YtaiokjhjakdhaaaGreatDoor

namespace Go.Proofs.YtaiokjhjakdhaaaGreatDoor
open Go.RowKit
set_option linter.unusedVariables false
set_option maxRecDepth 100000

theorem wfI (n : Int) (h : 0 ≤ n ∧ n ≤ 9) : (Lit.int .i64 n).wf = true := by
  obtain ⟨h1, h2⟩ := h
  have e1 : IntKind.i64.min = -9223372036854775808 := by kernel_rfl
  have e2 : IntKind.i64.max = 9223372036854775807 := by kernel_rfl
  simp only [Lit.wf, e1, e2, Bool.and_eq_true, decide_eq_true_eq]
  omega
/-- A map of the call's own that reads as f, beside the blocks l. -/
structure MS (w0 w : World) (b n : Nat) (f : Int → ByteArray) (l : Ents) : Prop where
  m : SM w b n f
  h : Hp w0 w l
  out : ∀ x ∈ l, x.1 ≠ b
  lo : w0.heap.size ≤ b
theorem SM.at_ {w : World} {b n : Nat} {f : Int → ByteArray} (h : SM w b n f) : ∃ ob, w.heap[b]? = some ob := by
  obtain ⟨D, ⟨es, cl, hb, _⟩, _⟩ := h
  exact ⟨_, hb⟩
section
variable {ops : Array Oper} {rest : List Oper} {o : Oper} {a : Act} {w0 w : World} {l : Ents} {Q : Exit → Act → World → Prop}
theorem mkM (H : Hid (Hp w0 w l)) {d : Tmp} (hK : ∀ b W', Hid (MS w0 W' b 0 (fun _ => ⟨#[]⟩) l) → wpList Tryz.prog ops Q rest (a.put (some d) (.map (some b))) W') (hg : o.guard = none := by rfl) (hd : o.dst = some d := by rfl)
    (hr : ∀ W : World, (execOp a.eval o).run Tryz.prog W = .ok (.value (.map (some W.heap.size))) (W.alloc (.map #[] 0)) := by intro W; kernel_rfl) : wpList Tryz.prog ops Q (o :: rest) a w := by
  refine wpList_plain hg fun _ hK2 => ?_
  unfold Oper.wp
  rw [hr, Oper.upon_value, hd]
  have h2 := Hm.made H.out (.map #[] 0)
  exact hK2 _ _ (hK _ _ (Lib.hid ⟨SM.made w, h2.hp, h2.out, H.out.bel.size⟩))
theorem upM {b n : Nat} {f : Int → ByteArray} (M : Hid (MS w0 w b n f l)) {m x v : Operand} {t : TypeId} {key : Int} {c : ByteArray} (hK : ∀ W', Hid (MS w0 W' b (n + 1) (fun y => if y = key then c else f y) l) → wpList Tryz.prog ops Q rest (a.put o.dst undef) W') (ht : Tryz.prog.underlying t = some (.map 3 9)) (hn : n < 1000) (hkey : (Lit.int .i64 key).wf = true) (hc : c.size ≤ maxLen)
    (hg : o.guard = none := by rfl) (hop : o.op = Op.mapUpdate t m x v := by rfl) (hm : a.eval m = .map (some b) := by rfl) (hx : a.eval x = .int .i64 key := by rfl) (hv : a.eval v = .string c := by rfl) : wpList Tryz.prog ops Q (o :: rest) a w := by
  refine wpList_update_sm w hg m x v t hop ht b n f hm M.out.m hn key hx hkey c hc hv fun w' h1 h2 => ?_
  obtain ⟨ob, hob⟩ := M.out.m.at_
  obtain ⟨ob', hob'⟩ := h1.at_
  have h3 : Hm w0 w b ob l := ⟨M.out.h, hob, M.out.out⟩
  have h4 := h3.turned h2 hob' M.out.lo
  exact hK w' (Lib.hid ⟨h1, h4.hp, M.out.out, M.out.lo⟩)
theorem wpList_ins {d : Option Tmp} {ty : TypeId} {po : String} {af : Array Edge} {g : Option (Nat × Bool)} {t : TypeId} {m x v : Operand} (h : wpList Tryz.prog ops Q (⟨d, .mapUpdate t m x v, ty, po, af, g⟩ :: rest) a w) : wpList Tryz.prog ops Q (⟨d, .insert t m x v, ty, po, af, g⟩ :: rest) a w := by
  unfold wpList at h ⊢
  exact h
theorem upI {d : Option Tmp} {ty : TypeId} {po : String} {af : Array Edge} {b n : Nat} {f : Int → ByteArray} (M : Hid (MS w0 w b n f l)) {m x v : Operand} {t : TypeId} {key : Int} {c : ByteArray} (hK : ∀ W', Hid (MS w0 W' b (n + 1) (fun y => if y = key then c else f y) l) → wpList Tryz.prog ops Q rest (a.put d undef) W')
    (hm : a.eval m = .map (some b) := by rfl) (hx : a.eval x = .int .i64 key := by rfl) (hv : a.eval v = .string c := by rfl) (ht : Tryz.prog.underlying t = some (.map 3 9) := by exact Tryz.underlying116) (hn : n < 1000 := by decide) (hkey : (Lit.int .i64 key).wf = true := by exact wfI _ (by decide)) (hc : c.size ≤ maxLen := by decide) : wpList Tryz.prog ops Q (⟨d, .insert t m x v, ty, po, af, none⟩ :: rest) a w :=
  wpList_ins (upM (o := ⟨d, .mapUpdate t m x v, ty, po, af, none⟩) M hK ht hn hkey hc rfl rfl hm hx hv)
theorem lkM {b n : Nat} {f : Int → ByteArray} (M : Hid (MS w0 w b n f l)) {m x : Operand} {t : TypeId} {key : Int} (hK : wpList Tryz.prog ops Q rest (a.put o.dst (.string (f key))) w)
    (hg : o.guard = none := by rfl) (hop : o.op = Op.lookup t m x false := by rfl) (hm : a.eval m = .map (some b) := by rfl) (hx : a.eval x = .int .i64 key := by rfl) (ht : Tryz.prog.underlying t = some (.map 3 9) := by exact Tryz.underlying116) (hkey : (Lit.int .i64 key).wf = true := by exact wfI _ (by decide)) : wpList Tryz.prog ops Q (o :: rest) a w :=
  wpList_lookup_sm w hg m x t hop ht b n f hm M.out.m key hx hkey hK
variable {d : Option Tmp} {ty : TypeId} {po : String} {af : Array Edge} {g : Option (Nat × Bool)}
theorem isMk {t : TypeId} {x : Option Operand} (h : wpList Tryz.prog ops Q (⟨d, .makeMap t x, ty, po, af, g⟩ :: rest) a w) : wpList Tryz.prog ops Q (⟨d, .makeMap t x, ty, po, af, g⟩ :: rest) a w := h
theorem isIns {t : TypeId} {m x v : Operand} (h : wpList Tryz.prog ops Q (⟨d, .insert t m x v, ty, po, af, g⟩ :: rest) a w) : wpList Tryz.prog ops Q (⟨d, .insert t m x v, ty, po, af, g⟩ :: rest) a w := h
theorem isLk {t : TypeId} {m x : Operand} {b : Bool} (h : wpList Tryz.prog ops Q (⟨d, .lookup t m x b, ty, po, af, g⟩ :: rest) a w) : wpList Tryz.prog ops Q (⟨d, .lookup t m x b, ty, po, af, g⟩ :: rest) a w := h
end
end Go.Proofs.YtaiokjhjakdhaaaGreatDoor

namespace Go.Proofs.YtaiokjhjakdhaaaGreatDoor
open Go.RowKit
set_option linter.unusedVariables false

/-- A word's kind and text. -/
abbrev Tk := Nat × ByteArray
def tkW (x : Wd) : Tk := (x.kind, x.text)
def eqS (a b : ByteArray) : Bool := a.toList == b.toList
theorem eqS_iff {a b : ByteArray} : eqS a b = true ↔ a = b := by
  unfold eqS
  constructor
  · intro h
    by_cases e : a = b
    · exact e
    · rw [str_ne e] at h; cases h
  · rintro rfl; exact str_eq rfl
inductive Rs (α : Type)
  | err (e : Int)
  | ok (a : α) (left : Int) (ts : List Tk)
def takR (x : ByteArray) : List Tk → Option (List Tk)
  | [] => none
  | t :: r => if eqS t.2 x then some r else none
def nmeR : List Tk → Option (ByteArray × List Tk)
  | [] => none
  | t :: r => if t.1 = 1 then (if memS t.2 kws then none else some (t.2, r)) else none
/-- A number out of a text; the text of a number. -/
def intT (s : ByteArray) : Option Int :=
  match Lib.parseIntB 64 s.data.toList with
  | .ok v => some v
  | _ => none
def numT (n : Int) : ByteArray := ⟨(Lib.itoa n).toArray⟩
def cntR : List Tk → Option (Int × List Tk)
  | [] => none
  | t :: r => if t.1 = 2 then (match intT t.2 with | none => none | some n => if eqS (numT n) t.2 then some (n, r) else none) else none
def decT (n : Nat) : ByteArray := ⟨(Lib.decDigits n).toArray⟩
def valD (l : List UInt8) : Nat := l.foldl (fun a c => a * 10 + (c.toNat - 48)) 0
/-- What nat.Read reads out of digits. -/
def natR (l : List UInt8) : Option Nat :=
  if l = [] then none else if 1 < l.length ∧ l.head? = some 48 then none else if l.all digitB then some (valD l) else none
/-- What stands ahead of a slash and behind it. -/
def cutN (l : List UInt8) : List UInt8 := if Lib.indexByte l 47 = -1 then l else l.take (Lib.indexByte l 47).toNat
def cutD (l : List UInt8) : List UInt8 := if Lib.indexByte l 47 = -1 then [49] else l.drop ((Lib.indexByte l 47).toNat + 1)
/-- What rat.Read reads out of a number's text. -/
def ratR (s : ByteArray) : Option Rat :=
  match natR (cutN s.data.toList) with
  | none => none
  | some n => match natR (cutD s.data.toList) with
    | none => none
    | some d => if d = 0 then none else some (mkR false n d)
def ratT2 (q : Rat) : ByteArray :=
  if q.den = 1 then decT q.num.natAbs else ⟨(Lib.decDigits q.num.natAbs ++ 47 :: Lib.decDigits q.den).toArray⟩
def wthR : List Tk → Option (Rat × List Tk)
  | [] => none
  | t :: r => if t.1 = 2 then (match ratR t.2 with | none => none | some q => if eqS (ratT2 q) t.2 then some (q, r) else none) else none
def kPut : ByteArray := ⟨#[112, 117, 116]⟩
def kIn : ByteArray := ⟨#[105, 110]⟩
def kWithin : ByteArray := ⟨#[119, 105, 116, 104, 105, 110]⟩
def kHold : ByteArray := ⟨#[104, 111, 108, 100]⟩
def kWith : ByteArray := ⟨#[119, 105, 116, 104]⟩
def kFree : ByteArray := ⟨#[102, 114, 101, 101]⟩
def kSee : ByteArray := ⟨#[115, 101, 101]⟩
def kWait : ByteArray := ⟨#[119, 97, 105, 116]⟩
def kDo : ByteArray := ⟨#[100, 111]⟩
def kAny : ByteArray := ⟨#[97, 110, 121]⟩
def kRep : ByteArray := ⟨#[114, 101, 112, 101, 97, 116]⟩
def kTry : ByteArray := ⟨#[116, 114, 121]⟩
def kOr : ByteArray := ⟨#[111, 114]⟩
def kElse : ByteArray := ⟨#[101, 108, 115, 101]⟩
def kJob : ByteArray := ⟨#[106, 111, 98]⟩
def kOpen : ByteArray := ⟨#[123]⟩
def kShut : ByteArray := ⟨#[125]⟩
def kSemi : ByteArray := ⟨#[59]⟩
def noS : ByteArray := ⟨#[]⟩
def kwWithin : List ByteArray := [kJob, kIn, kWithin, kWith, kOr, kElse]
def putR (r : List Tk) : Option (Stm × List Tk) :=
  match nmeR r with
  | none => none
  | some (a, r1) => match takR kIn r1 with
    | none => none
    | some r2 => match nmeR r2 with
      | none => none
      | some (b, r3) => match takR kWithin r3 with
        | none => some (.mk 1 a b none 0 [], r3)
        | some r4 => match wthR r4 with
          | none => none
          | some (q, r5) => some (.mk 1 a b (some q) 0 [], r5)
def hldR (r : List Tk) : Option (Stm × List Tk) :=
  match nmeR r with
  | none => none
  | some (a, r1) => match takR kWith r1 with
    | none => none
    | some r2 => match nmeR r2 with
      | none => none
      | some (b, r3) => some (.mk 2 a b none 0 [], r3)
def oneR (k : Int) (r : List Tk) : Option (Stm × List Tk) :=
  match nmeR r with
  | none => none
  | some (a, r1) => some (.mk k a noS none 0 [], r1)
def waiR (r : List Tk) : Option (Stm × List Tk) :=
  match cntR r with
  | none => none
  | some (n, r1) => some (.mk 5 noS noS none n [], r1)
def plnR (ts : List Tk) : Option (Stm × List Tk) :=
  match takR kPut ts with
  | some r => putR r
  | none => match takR kHold ts with
    | some r => hldR r
    | none => match takR kFree ts with
      | some r => oneR 3 r
      | none => match takR kSee ts with
        | some r => oneR 4 r
        | none => match takR kWait ts with
          | some r => waiR r
          | none => none
def begR : List Tk → Bool
  | [] => false
  | t :: _ => memS t.2 kws && !memS t.2 kwWithin
abbrev FS := Int → List Tk → Rs Stm
def lopR (f : FS) : Nat → Int → List Tk → Rs (List Stm)
  | 0, _, _ => .err 15
  | n + 1, left, ts => match takR kShut ts with
    | some r => .ok [] left r
    | none => match f left ts with
      | .err e => .err e
      | .ok s l2 t2 => match lopR f n l2 t2 with
        | .err e => .err e
        | .ok l l3 t3 => .ok (s :: l) l3 t3
def blkR (f : Option FS) (left : Int) (ts : List Tk) : Rs (List Stm) :=
  match takR kOpen ts with
  | none => .err 15
  | some r => match f with
    | none => .err 2
    | some f => lopR f (r.length + 1) left r
def bksR (f : Option FS) (between : ByteArray) : Nat → Int → List Tk → Rs (List (List Stm))
  | 0, _, _ => .err 15
  | k + 1, left, ts => match blkR f left ts with
    | .err e => .err e
    | .ok b l2 t2 => if k = 0 then .ok [b] l2 t2 else match takR between t2 with
      | none => .ok [b] l2 t2
      | some t3 => match bksR f between k l2 t3 with
        | .err e => .err e
        | .ok bs l4 t4 => .ok (b :: bs) l4 t4
def mapB (k n : Int) : Rs (List (List Stm)) → Rs Stm
  | .err e => .err e
  | .ok bs l t => .ok (.mk k noS noS none n bs) l t
def tryB : Rs (List (List Stm)) → Rs Stm
  | .err e => .err e
  | .ok bs l t => if bs.length = 2 then .ok (.mk 9 noS noS none 0 bs) l t else .err 15
def repB (f : Option FS) (left : Int) (r : List Tk) : Rs Stm :=
  match cntR r with
  | none => .err 15
  | some (n, r1) => mapB 7 n (bksR f noS 1 left r1)
def leafB (left : Int) (ts : List Tk) : Rs Stm :=
  match plnR ts with
  | none => .err 15
  | some (s, r) => match takR kSemi r with
    | none => .err 15
    | some r2 => .ok s left r2
def kndR (f : Option FS) (left : Int) (ts : List Tk) : Rs Stm :=
  match takR kDo ts with
  | some r => mapB 6 0 (bksR f noS 1 left r)
  | none => match takR kAny ts with
    | some r => mapB 8 0 (bksR f kOr 4 left r)
    | none => match takR kRep ts with
      | some r => repB f left r
      | none => match takR kTry ts with
        | some r => tryB (bksR f kElse 2 left r)
        | none => leafB left ts
def stmR (f : Option FS) (left : Int) (ts : List Tk) : Rs Stm :=
  if begR ts then (if left - 1 < 0 then .err 2 else kndR f (left - 1) ts) else .err 15
/-- r.stmt, d levels of blocks above the deepest ones. -/
def fS : Nat → FS
  | 0 => stmR none
  | d + 1 => stmR (some (fS d))
def jobR (ts : List Tk) : Option (ByteArray × List Stm) :=
  match takR kJob ts with
  | none => none
  | some r => match nmeR r with
    | none => none
    | some (nm, r1) => match blkR (some (fS 4)) 100 r1 with
      | .err _ => none
      | .ok l _ t => if t = [] then some (nm, l) else none

/-! What a statement prints -/
def putW (s : Stm) : List ByteArray :=
  match s.wd with
  | none => [kPut, s.a, kIn, s.b]
  | some q => [kPut, s.a, kIn, s.b, kWithin, ratT2 q]
def headW (s : Stm) : List ByteArray :=
  if s.k = 1 then putW s ++ [kSemi]
  else if s.k = 2 then [kHold, s.a, kWith, s.b, kSemi]
  else if s.k = 3 then [kFree, s.a, kSemi]
  else if s.k = 4 then [kSee, s.a, kSemi]
  else if s.k = 5 then [kWait, numT s.n, kSemi]
  else if s.k = 6 then [kDo]
  else if s.k = 7 then [kRep, numT s.n]
  else if s.k = 8 then [kAny]
  else [kTry]
def sepW (k : Int) : ByteArray := if k = 8 then kOr else kElse
def listW (f : Stm → List ByteArray) (l : List Stm) : List ByteArray := [kOpen] ++ l.flatMap f ++ [kShut]
def moreW (f : Stm → List ByteArray) (sep : ByteArray) (bs : List (List Stm)) : List ByteArray := bs.flatMap fun b => sep :: listW f b
def blsW (f : Stm → List ByteArray) (sep : ByteArray) : List (List Stm) → List ByteArray
  | [] => []
  | b :: bs => listW f b ++ moreW f sep bs
def prS : Nat → Stm → List ByteArray
  | 0, _ => []
  | d + 1, s => headW s ++ blsW (prS d) (sepW s.k) s.bl
def jobW (nm : ByteArray) (l : List Stm) : List ByteArray := kJob :: nm :: listW (prS 5) l

/-! What is read is what is printed -/
def txs (ts : List Tk) : List ByteArray := ts.map (·.2)
theorem takR_txs {x : ByteArray} {ts r : List Tk} (h : takR x ts = some r) : txs ts = x :: txs r := by
  cases ts with
  | nil => cases h
  | cons t ts =>
    simp only [takR] at h
    split at h
    · rename_i e
      cases h
      rw [eqS_iff] at e
      show t.2 :: _ = _
      rw [e]; rfl
    · cases h
theorem nmeR_txs {a : ByteArray} {ts r : List Tk} (h : nmeR ts = some (a, r)) : txs ts = a :: txs r := by
  cases ts with
  | nil => cases h
  | cons t ts =>
    simp only [nmeR] at h
    split at h
    · split at h
      · cases h
      · cases h; rfl
    · cases h
theorem cntR_txs {n : Int} {ts r : List Tk} (h : cntR ts = some (n, r)) : txs ts = numT n :: txs r := by
  cases ts with
  | nil => cases h
  | cons t ts =>
    simp only [cntR] at h
    split at h
    · split at h
      · cases h
      · split at h
        · rename_i e
          cases h
          rw [eqS_iff] at e
          rw [e]; rfl
        · cases h
    · cases h
theorem wthR_txs {q : Rat} {ts r : List Tk} (h : wthR ts = some (q, r)) : txs ts = ratT2 q :: txs r := by
  cases ts with
  | nil => cases h
  | cons t ts =>
    simp only [wthR] at h
    split at h
    · split at h
      · cases h
      · split at h
        · rename_i e
          cases h
          rw [eqS_iff] at e
          rw [e]; rfl
        · cases h
    · cases h
theorem plnR_txs {s : Stm} {ts r : List Tk} (h : plnR ts = some (s, r)) : (∃ us, headW s = us ++ [kSemi] ∧ txs ts = us ++ txs r) ∧ s.bl = [] := by
  unfold plnR at h
  split at h
  · rename_i r0 e0
    unfold putR at h
    split at h
    · cases h
    · rename_i a r1 e1
      split at h
      · cases h
      · rename_i r2 e2
        split at h
        · cases h
        · rename_i b r3 e3
          split at h
          · cases h
            exact ⟨⟨_, rfl, by rw [takR_txs e0, nmeR_txs e1, takR_txs e2, nmeR_txs e3]; rfl⟩, rfl⟩
          · rename_i r4 e4
            split at h
            · cases h
            · rename_i q r5 e5
              cases h
              exact ⟨⟨_, rfl, by rw [takR_txs e0, nmeR_txs e1, takR_txs e2, nmeR_txs e3, takR_txs e4, wthR_txs e5]; rfl⟩, rfl⟩
  · split at h
    · rename_i r0 e0
      unfold hldR at h
      split at h
      · cases h
      · rename_i a r1 e1
        split at h
        · cases h
        · rename_i r2 e2
          split at h
          · cases h
          · rename_i b r3 e3
            cases h
            exact ⟨⟨[kHold, a, kWith, b], rfl, by rw [takR_txs e0, nmeR_txs e1, takR_txs e2, nmeR_txs e3]; rfl⟩, rfl⟩
    · split at h
      · rename_i r0 e0
        unfold oneR at h
        split at h
        · cases h
        · rename_i a r1 e1
          cases h
          exact ⟨⟨[kFree, a], rfl, by rw [takR_txs e0, nmeR_txs e1]; rfl⟩, rfl⟩
      · split at h
        · rename_i r0 e0
          unfold oneR at h
          split at h
          · cases h
          · rename_i a r1 e1
            cases h
            exact ⟨⟨[kSee, a], rfl, by rw [takR_txs e0, nmeR_txs e1]; rfl⟩, rfl⟩
        · split at h
          · rename_i r0 e0
            unfold waiR at h
            split at h
            · cases h
            · rename_i n r1 e1
              cases h
              exact ⟨⟨[kWait, numT n], rfl, by rw [takR_txs e0, cntR_txs e1]; rfl⟩, rfl⟩
          · cases h
theorem lopR_txs {f : FS} {g : Stm → List ByteArray} (hf : ∀ left ts s l t, f left ts = .ok s l t → txs ts = g s ++ txs t) : ∀ (n : Nat) (left : Int) (ts : List Tk) (l : List Stm) (lf : Int) (t : List Tk), lopR f n left ts = .ok l lf t → txs ts = l.flatMap g ++ kShut :: txs t
  | 0, _, _, _, _, _, h => by cases h
  | n + 1, left, ts, l, lf, t, h => by
    unfold lopR at h
    split at h
    · rename_i r e
      cases h
      rw [takR_txs e]; rfl
    · split at h
      · cases h
      · rename_i s l2 t2 e2
        split at h
        · cases h
        · rename_i l' l3 t3 e3
          cases h
          rw [hf _ _ _ _ _ e2, lopR_txs hf n _ _ _ _ _ e3, List.flatMap_cons, List.append_assoc]
theorem blkR_txs {f : Option FS} {g : Stm → List ByteArray} (hf : ∀ f', f = some f' → ∀ left ts s l t, f' left ts = .ok s l t → txs ts = g s ++ txs t) {left : Int} {ts : List Tk} {l : List Stm} {lf : Int} {t : List Tk} (h : blkR f left ts = .ok l lf t) : txs ts = listW g l ++ txs t := by
  unfold blkR at h
  split at h
  · cases h
  · rename_i r e
    split at h
    · cases h
    · rename_i f'
      rw [takR_txs e, lopR_txs (hf f' rfl) _ _ _ _ _ _ h]
      simp [listW]
theorem bksR_txs {f : Option FS} {g : Stm → List ByteArray} (hf : ∀ f', f = some f' → ∀ left ts s l t, f' left ts = .ok s l t → txs ts = g s ++ txs t) (sep : ByteArray) : ∀ (k : Nat) (left : Int) (ts : List Tk) (bs : List (List Stm)) (lf : Int) (t : List Tk), bksR f sep k left ts = .ok bs lf t → txs ts = blsW g sep bs ++ txs t ∧ bs ≠ [] ∧ bs.length ≤ k
  | 0, _, _, _, _, _, h => by cases h
  | k + 1, left, ts, bs, lf, t, h => by
    unfold bksR at h
    split at h
    · cases h
    · rename_i b l2 t2 e2
      have h2 := blkR_txs hf e2
      split at h
      · cases h
        exact ⟨by rw [h2]; simp [blsW, moreW], by simp, by simp⟩
      · split at h
        · cases h
          exact ⟨by rw [h2]; simp [blsW, moreW], by simp, by simp⟩
        · rename_i t3 e3
          split at h
          · cases h
          · rename_i bs' l4 t4 e4
            cases h
            obtain ⟨i1, i2, i3⟩ := bksR_txs hf sep k _ _ _ _ _ e4
            refine ⟨?_, by simp, by simp; exact i3⟩
            rw [h2, takR_txs e3, i1]
            cases bs' with
            | nil => exact absurd rfl i2
            | cons b' bs' => simp [blsW, moreW]
theorem blsW_one (g : Stm → List ByteArray) (a b : ByteArray) {bs : List (List Stm)} (h : bs.length ≤ 1) : blsW g a bs = blsW g b bs := by
  rcases bs with _ | ⟨x, _ | ⟨y, bs⟩⟩
  · rfl
  · rfl
  · simp at h
theorem stmR_txs {f : Option FS} {d : Nat} (hf : ∀ f', f = some f' → ∀ left ts s l t, f' left ts = .ok s l t → txs ts = prS d s ++ txs t) (left : Int) (ts : List Tk) (s : Stm) (l : Int) (t : List Tk) (h : stmR f left ts = .ok s l t) : txs ts = prS (d + 1) s ++ txs t := by
  unfold stmR at h
  split at h
  · split at h
    · cases h
    · unfold kndR at h
      split at h
      · rename_i r e
        generalize hB : bksR f noS 1 (left - 1) r = B at h
        cases B with
        | err e => cases h
        | ok bs lf t' =>
          cases h
          obtain ⟨h1, _, h3⟩ := bksR_txs hf noS _ _ _ _ _ _ hB
          rw [takR_txs e, h1, blsW_one _ noS (sepW 6) h3]
          rfl
      · split at h
        · rename_i r e
          generalize hB : bksR f kOr 4 (left - 1) r = B at h
          cases B with
          | err e => cases h
          | ok bs lf t' =>
            cases h
            obtain ⟨h1, _, h3⟩ := bksR_txs hf kOr _ _ _ _ _ _ hB
            rw [takR_txs e, h1]
            rfl
        · split at h
          · rename_i r e
            unfold repB at h
            split at h
            · cases h
            · rename_i n r1 e1
              generalize hB : bksR f noS 1 (left - 1) r1 = B at h
              cases B with
              | err e => cases h
              | ok bs lf t' =>
                cases h
                obtain ⟨h1, _, h3⟩ := bksR_txs hf noS _ _ _ _ _ _ hB
                rw [takR_txs e, cntR_txs e1, h1, blsW_one _ noS (sepW 7) h3]
                rfl
          · split at h
            · rename_i r e
              generalize hB : bksR f kElse 2 (left - 1) r = B at h
              cases B with
              | err e => cases h
              | ok bs lf t' =>
                simp only [tryB] at h
                split at h
                · cases h
                  obtain ⟨h1, _, h3⟩ := bksR_txs hf kElse _ _ _ _ _ _ hB
                  rw [takR_txs e, h1]
                  rfl
                · cases h
            · unfold leafB at h
              split at h
              · cases h
              · rename_i s' r e
                split at h
                · cases h
                · rename_i r2 e2
                  cases h
                  obtain ⟨⟨us, h1, h2⟩, h3⟩ := plnR_txs e
                  rw [h2, takR_txs e2]
                  unfold prS
                  rw [h1, h3]
                  simp [blsW]
  · cases h
theorem fS_txs : ∀ (d : Nat) (left : Int) (ts : List Tk) (s : Stm) (l : Int) (t : List Tk), fS d left ts = .ok s l t → txs ts = prS (d + 1) s ++ txs t
  | 0 => fun left ts s l t h => stmR_txs (d := 0) (fun _ e => by cases e) left ts s l t h
  | d + 1 => fun left ts s l t h => stmR_txs (d := d + 1) (fun f' e => by cases e; exact fS_txs d) left ts s l t h
/-- A job that is read is printed as its words. -/
theorem jobR_txs {ts : List Tk} {nm : ByteArray} {l : List Stm} (h : jobR ts = some (nm, l)) : txs ts = jobW nm l := by
  unfold jobR at h
  split at h
  · cases h
  · rename_i r e
    split at h
    · cases h
    · rename_i nm' r1 e1
      split at h
      · cases h
      · rename_i l' lf t e2
        split at h
        · rename_i e3
          cases h
          subst e3
          rw [takR_txs e, nmeR_txs e1, blkR_txs (g := prS 5) (fun f' e => by cases e; exact fS_txs 4) e2]
          simp [jobW, txs]
        · cases h
end Go.Proofs.YtaiokjhjakdhaaaGreatDoor

namespace Go.Proofs.YtaiokjhjakdhaaaGreatDoor
open Go.RowKit
set_option linter.unusedVariables false
set_option maxRecDepth 100000

/-- What a word of a text is: short; a number is one. -/
def TkOk (x : Tk) : Prop := x.2.size ≤ 4096 ∧ (x.1 = 2 → isNumL x.2.data.toList = true)
/-- v is a slice of words with these kinds and texts, in a block of E. -/
def VW (E : Ents) (v : Value) (ts : List Tk) : Prop :=
  ∃ A c, v = .slice A ts.length c ∧ ts.length ≤ c ∧ c ≤ maxLen ∧ (∀ x ∈ ts, TkOk x) ∧
    (ts ≠ [] → ∃ g o cur, A = some ⟨g, o, none⟩ ∧ (g, 106, cur) ∈ E ∧ ∀ (j : Nat) (x : Tk), ts[j]? = some x → cur[o + j * 3]? = some (.int .i64 x.1) ∧ cur[o + j * 3 + 2]? = some (.string x.2))
theorem VW.shape {E : Ents} {v : Value} {ts : List Tk} (h : VW E v ts) : ∃ A c, v = .slice A ts.length c ∧ ts.length ≤ c ∧ c ≤ maxLen := by
  obtain ⟨A, c, h1, h2, h3, _⟩ := h
  exact ⟨A, c, h1, h2, h3⟩
/-- Where the rest of a row begins. -/
def adv3 (A : Option Addr) (c : Nat) : Option Addr := if c = 1 then A else A.map (·.add (1 * 3))
theorem VW.tail {E : Ents} {A : Option Addr} {n c : Nat} {t : Tk} {ts : List Tk} (h : VW E (.slice A n c) (t :: ts)) : VW E (.slice (adv3 A c) (n - 1) (c - 1)) ts := by
  obtain ⟨A', c', h1, h2, h3, h4, h5⟩ := h
  cases h1
  simp only [List.length_cons] at h2
  refine ⟨_, _, rfl, by omega, by omega, fun x hx => h4 x (.tail _ hx), fun hn => ?_⟩
  obtain ⟨g, o, cur, e1, e2, e3⟩ := h5 (by simp)
  have h0 : 0 < ts.length := List.length_pos_iff.2 hn
  refine ⟨g, o + 3, cur, ?_, e2, fun j x hx => ?_⟩
  · unfold adv3
    rw [if_neg (by omega), e1]
    simp [Addr.add]
  · have := e3 (j + 1) x (by simpa using hx)
    rw [show o + (j + 1) * 3 = o + 3 + j * 3 by omega] at this
    exact this
theorem VW.head {E : Ents} {A : Option Addr} {n c : Nat} {t : Tk} {ts : List Tk} (h : VW E (.slice A n c) (t :: ts)) : TkOk t ∧ n = ts.length + 1 ∧ n ≤ c ∧ c ≤ maxLen ∧ ∃ g o, A = some ⟨g, o, none⟩ ∧ ∀ w, Hld E w → w.cell? ⟨g, o, none⟩ = some (.int .i64 t.1) ∧ w.cell? ⟨g, o + 2, none⟩ = some (.string t.2) := by
  obtain ⟨A', c', h1, h2, h3, h4, h5⟩ := h
  cases h1
  obtain ⟨g, o, cur, e1, e2, e3⟩ := h5 (by simp)
  refine ⟨h4 _ (.head _), by simp, h2, h3, g, o, e1, fun w hw => ?_⟩
  have hb := hw _ e2
  have := e3 0 t rfl
  rw [hb.cell, hb.cell]
  simpa using this
theorem rWrd : RowT Tryz.prog 106 3 := ⟨⟨_, Tryz.underlying106, rfl⟩, by kernel_rfl⟩
theorem kWrs : ∃ d, Tryz.prog.underlying 74 = some d ∧ d.isRow = false := ⟨_, Tryz.underlying74, rfl⟩
theorem sWrs : (Tryz.prog.info? 74).map (·.size) = some 1 := by kernel_rfl
theorem elWrs : Tryz.prog.elem 74 = 106 := by kernel_rfl
theorem utWrs : Tryz.prog.underlying 74 = some (.slice (Tryz.prog.elem 74)) := by rw [elWrs]; exact Tryz.underlying74
theorem szWrd (w : World) : (sizeOf (Tryz.prog.elem 74)).run Tryz.prog w = .ok 3 w := by
  rw [elWrs]
  have h3 := rWrd.s
  cases hq : Tryz.prog.info? 106 with
  | none => simp [hq] at h3
  | some i =>
    have h4 : i.size = 3 := by simpa [hq] using h3
    simp [sizeOf, typeInfo, hq, h4]
section
variable {P : Program} {ops : Array Oper} {rest : List Oper} {o : Oper} {a a2 : Act} {w : World} {Q : Exit → Act → World → Prop}
/-- A slice without its first element. -/
theorem slTail {t : TypeId} {A : Option Addr} {n c : Nat} {x l : Operand} (hK : wpList P ops Q rest a2 w) (h1 : 1 ≤ n) (ht : P.underlying t = some (.slice (P.elem t))) (hz : ∀ w, (sizeOf (P.elem t)).run P w = .ok 3 w) (ho : o.op = .slice t x (some l) none none := by rfl) (hx : a.eval x = .slice A n c := by rfl) (hlo : a.eval l = .int .i64 1 := by rfl)
    (hg : Region.wanted o (yielded ops a.tmps) = true := by first | exact wanted_none rfl | exact wanted_some rfl rfl) (hn : a.put o.dst (.slice (adv3 A c) (n - 1) (c - 1)) = a2 := by (simp only [Act.put, List.setIfInBounds_toArray, List.set_cons_succ, List.set_cons_zero]; rfl)) : wpList P ops Q (o :: rest) a w := by
  subst hn
  refine wpList_step fun K hK' => ?_
  rw [if_pos hg]
  unfold Oper.wp execOp
  have hr := run_slice_l (P := P) w t A n c ht .i64 (1 : Int) (by omega) (by omega)
  simp only [ho, hx, hlo, Option.map, Sem.run_bind, Sem.run_pure, run_sliceAt_slice w t _ _ _ _ ht, hr, hz, Result.andThen_ok, sliced, show (1 : Int).toNat = 1 from rfl]
  rw [Oper.upon_value]
  exact hK' _ _ hK
theorem isPart1 {d : Option Tmp} {ty : TypeId} {po : String} {af : Array Edge} {g : Option (Nat × Bool)} {t : TypeId} {x : Operand} {l h m : Option Operand} (k : wpList P ops Q (⟨d, .slice t x l h m, ty, po, af, g⟩ :: rest) a w) : wpList P ops Q (⟨d, .slice t x l h m, ty, po, af, g⟩ :: rest) a w := k
end
theorem takR_cons_eq {x : ByteArray} {t : Tk} {ts : List Tk} (h : t.2 = x) : takR x (t :: ts) = some ts := by
  simp only [takR]
  rw [if_pos (eqS_iff.2 h)]
theorem takR_cons_ne {x : ByteArray} {t : Tk} {ts : List Tk} (h : ¬ t.2 = x) : takR x (t :: ts) = none := by
  simp only [takR]
  rw [if_neg (fun e => h (eqS_iff.1 e))]
set_option maxHeartbeats 4000000 in
theorem take_any (w0 w : World) (m E : Ents) (br : Nat) (v : Value) (left : Int) (ts : List Tk) (x : ByteArray) (H : Hid (Hp w0 w ((br, 79, [v, .int .i64 left]) :: m))) (V : Hid (VW E v ts)) (HE : Hid (∀ x ∈ E, x ∈ m)) :
    Calls Tryz.prog 19 #[.pointer (some ⟨br, 0, none⟩), .string x] w fun e w' => ∃ v', e = .returned (.bool (takR x ts).isSome) ∧ VW E v' ((takR x ts).getD ts) ∧ Hp w0 w' ((br, 79, [v', .int .i64 left]) :: m) := by
  cases ts with
  | nil =>
    obtain ⟨A, c, rfl, _⟩ := V.out.shape
    simp only [List.length_nil] at H V
    go_enter Tryz.func19, Tryz.ntmps19
    go_wp2_with (first
        | go_skip
        | ((with_reducible refine isLoad ?_); refine ld1A H ?_ (hT := by first | exact kWrs)))
    go_ret
    exact ⟨_, rfl, V.out, H.out⟩
  | cons t ts =>
    obtain ⟨A, c, rfl, _, _⟩ := V.out.shape
    obtain ⟨hok, hn, hc, hcm, g, o, rfl, hX⟩ := V.out.head
    have X := Lib.hid (hX w (H.out.hld (fun x hx => .tail _ (HE.out x hx)))).2
    simp only [List.length_cons] at H V hc
    clear hX hn
    obtain ⟨n, hnl⟩ : ∃ n, ts.length = n := ⟨_, rfl⟩
    rw [hnl] at H V hc
    by_cases he : t.2 = x
    · have hb := str_eq he
      rw [takR_cons_eq he]
      have V2 := V.out.tail
      simp only [Nat.add_sub_cancel] at V2
      have V3 := Lib.hid V2
      clear V2 V
      obtain ⟨k, u⟩ := t
      simp only at he hb X
      subst he
      go_enter Tryz.func19, Tryz.ntmps19
      go_wp2_with (first
          | go_skip
          | ((with_reducible refine isLoad ?_); first | refine ld1A H ?_ (hT := by first | exact kWrs) | refine ld1X X ?_ (hT := kStr))
          | ((with_reducible refine isPart1 ?_); refine slTail (n := n + 1) ?_ (by omega) utWrs szWrd)
          | ((with_reducible refine isStore ?_); refine st1A H ?_ (hT := by first | exact sWrs); clear H; intro _ H))
      go_ret
      exact ⟨_, rfl, V3.out, H.out⟩
    · have hb := str_ne he
      rw [takR_cons_ne he]
      obtain ⟨k, u⟩ := t
      simp only at he hb X
      go_enter Tryz.func19, Tryz.ntmps19
      go_wp2_with (first
          | go_skip
          | ((with_reducible refine isLoad ?_); first | refine ld1A H ?_ (hT := by first | exact kWrs) | refine ld1X X ?_ (hT := kStr)))
      go_ret
      exact ⟨_, rfl, V.out, H.out⟩
end Go.Proofs.YtaiokjhjakdhaaaGreatDoor

namespace Go.Proofs.YtaiokjhjakdhaaaGreatDoor
open Go.RowKit
set_option linter.unusedVariables false
set_option maxRecDepth 100000

theorem str_neL {s : ByteArray} (l : List UInt8) (h : ¬ s = ⟨l.toArray⟩) : (s.toList == l) = false := by
  have := str_ne h
  rwa [show (⟨l.toArray⟩ : ByteArray).toList = l by rw [ByteArray.toList_eq]] at this
theorem str_eqL {s : ByteArray} (l : List UInt8) (h : s = ⟨l.toArray⟩) : (s.toList == l) = true := by
  have := str_eq h
  rwa [show (⟨l.toArray⟩ : ByteArray).toList = l by rw [ByteArray.toList_eq]] at this
theorem kwW_mem {s : ByteArray} : memS s kwWithin = true ↔ s = kJob ∨ s = kIn ∨ s = kWithin ∨ s = kWith ∨ s = kOr ∨ s = kElse := by
  rw [memS_iff]; simp [kwWithin]
set_option maxHeartbeats 4000000 in
theorem kwW_any (s : ByteArray) (w : World) : Calls Tryz.prog 67 #[.string s] w fun e w' => e = .returned (.bool (memS s kwWithin)) ∧ w = w' := by
  by_cases h0 : s = kJob
  · have hm : memS s kwWithin = true := kwW_mem.2 (by simp [h0])
    rw [hm]
    clear hm
    have b0 := str_eqL [106, 111, 98] h0
    clear h0
    go_enter Tryz.func67, Tryz.ntmps67
    go_wp2_with (first
        | go_skip)
    go_ret
    exact ⟨rfl, rfl⟩
  by_cases h1 : s = kIn
  · have hm : memS s kwWithin = true := kwW_mem.2 (by simp [h1])
    rw [hm]
    clear hm
    have b0 := str_neL [106, 111, 98] h0
    have b1 := str_eqL [105, 110] h1
    clear h0 h1
    go_enter Tryz.func67, Tryz.ntmps67
    go_wp2_with (first
        | go_skip)
    go_ret
    exact ⟨rfl, rfl⟩
  by_cases h2 : s = kWithin
  · have hm : memS s kwWithin = true := kwW_mem.2 (by simp [h2])
    rw [hm]
    clear hm
    have b0 := str_neL [106, 111, 98] h0
    have b1 := str_neL [105, 110] h1
    have b2 := str_eqL [119, 105, 116, 104, 105, 110] h2
    clear h0 h1 h2
    go_enter Tryz.func67, Tryz.ntmps67
    go_wp2_with (first
        | go_skip)
    go_ret
    exact ⟨rfl, rfl⟩
  by_cases h3 : s = kWith
  · have hm : memS s kwWithin = true := kwW_mem.2 (by simp [h3])
    rw [hm]
    clear hm
    have b0 := str_neL [106, 111, 98] h0
    have b1 := str_neL [105, 110] h1
    have b2 := str_neL [119, 105, 116, 104, 105, 110] h2
    have b3 := str_eqL [119, 105, 116, 104] h3
    clear h0 h1 h2 h3
    go_enter Tryz.func67, Tryz.ntmps67
    go_wp2_with (first
        | go_skip)
    go_ret
    exact ⟨rfl, rfl⟩
  by_cases h4 : s = kOr
  · have hm : memS s kwWithin = true := kwW_mem.2 (by simp [h4])
    rw [hm]
    clear hm
    have b0 := str_neL [106, 111, 98] h0
    have b1 := str_neL [105, 110] h1
    have b2 := str_neL [119, 105, 116, 104, 105, 110] h2
    have b3 := str_neL [119, 105, 116, 104] h3
    have b4 := str_eqL [111, 114] h4
    clear h0 h1 h2 h3 h4
    go_enter Tryz.func67, Tryz.ntmps67
    go_wp2_with (first
        | go_skip)
    go_ret
    exact ⟨rfl, rfl⟩
  by_cases h5 : s = kElse
  · have hm : memS s kwWithin = true := kwW_mem.2 (by simp [h5])
    rw [hm]
    clear hm
    have b0 := str_neL [106, 111, 98] h0
    have b1 := str_neL [105, 110] h1
    have b2 := str_neL [119, 105, 116, 104, 105, 110] h2
    have b3 := str_neL [119, 105, 116, 104] h3
    have b4 := str_neL [111, 114] h4
    have b5 := str_eqL [101, 108, 115, 101] h5
    clear h0 h1 h2 h3 h4 h5
    go_enter Tryz.func67, Tryz.ntmps67
    go_wp2_with (first
        | go_skip)
    go_ret
    exact ⟨rfl, rfl⟩
  have hm : memS s kwWithin = false := by
    rw [Bool.eq_false_iff]; intro h; rcases kwW_mem.1 h with h | h | h | h | h | h <;> contradiction
  rw [hm]
  clear hm
  have b0 := str_neL [106, 111, 98] h0
  have b1 := str_neL [105, 110] h1
  have b2 := str_neL [119, 105, 116, 104, 105, 110] h2
  have b3 := str_neL [119, 105, 116, 104] h3
  have b4 := str_neL [111, 114] h4
  have b5 := str_neL [101, 108, 115, 101] h5
  clear h0 h1 h2 h3 h4 h5
  go_enter Tryz.func67, Tryz.ntmps67
  go_wp2_with (first
      | go_skip)
  go_ret
  exact ⟨rfl, rfl⟩
set_option maxHeartbeats 4000000 in
theorem begins_any (w0 w : World) (m : Ents) (v : Value) (ts : List Tk) (H : Hid (Hp w0 w m)) (E : Ents) (V : Hid (VW E v ts)) (HE : Hid (∀ x ∈ E, x ∈ m)) : Calls Tryz.prog 52 #[v] w fun e w' => e = .returned (.bool (begR ts)) ∧ Hp w0 w' m := by
  cases ts with
  | nil =>
    obtain ⟨A, c, rfl, _⟩ := V.out.shape
    simp only [List.length_nil] at V
    go_enter Tryz.func52, Tryz.ntmps52
    go_wp2_with (first
        | go_skip)
    go_ret
    exact ⟨rfl, H.out⟩
  | cons t ts =>
    obtain ⟨A, c, rfl, _, _⟩ := V.out.shape
    obtain ⟨hok, hn, hc, hcm, g, o, rfl, hX⟩ := V.out.head
    have HX := Lib.hid hX
    have X := Lib.hid (HX.out w (H.out.hld HE.out)).2
    have K := Lib.hid (HX.out w (H.out.hld HE.out)).1
    simp only [List.length_cons] at H V hc
    clear hX hn
    obtain ⟨n, hnl⟩ : ∃ n, ts.length = n := ⟨_, rfl⟩
    rw [hnl] at V hc
    try rw [hnl] at H
    have hn0 : ¬ ((n : Int) + 1 = 0) := by omega
    obtain ⟨k, u⟩ := t
    simp only at X K HX hok

    show Calls _ _ _ _ fun e w' => e = .returned (.bool (memS u kws && !memS u kwWithin)) ∧ Hp w0 w' m
    obtain ⟨b1, hb1⟩ : ∃ b, memS u kws = b := ⟨_, rfl⟩
    obtain ⟨b2, hb2⟩ : ∃ b, memS u kwWithin = b := ⟨_, rfl⟩
    rw [hb1, hb2]
    have KWW := kwW_any u
    have KW := keyword_any u
    rw [hb1] at KW
    rw [hb2] at KWW
    clear hb1 hb2
    cases b1
    · go_enter Tryz.func52, Tryz.ntmps52
      go_wp2_with (first
          | go_skip
          | ((with_reducible refine isLoad ?_); first | refine ld1A H ?_ (hT := by first | exact kWrs | exact kInt) | refine ld1X X ?_ (hT := by first | exact kStr | exact kInt) | refine ld1X K ?_ (hT := by first | exact kStr | exact kInt))
          | (go_at_call 34; refine (KW _ H.out.tb).mono ?_; rintro _ _ ⟨rfl, hB⟩; replace H := Lib.hid (H.out.go hB); clear X K; have X := Lib.hid (HX.out _ (H.out.hld HE.out)).2; have K := Lib.hid (HX.out _ (H.out.hld HE.out)).1; clear hB)
          | (go_at_call 67; refine (KWW _).mono ?_; rintro _ _ ⟨rfl, rfl⟩))
      go_ret
      first | exact ⟨rfl, H.out⟩ | (cases b2 <;> exact ⟨rfl, H.out⟩) | (trace_state; fail)
    · go_enter Tryz.func52, Tryz.ntmps52
      go_wp2_with (first
          | go_skip
          | ((with_reducible refine isLoad ?_); first | refine ld1A H ?_ (hT := by first | exact kWrs | exact kInt) | refine ld1X X ?_ (hT := by first | exact kStr | exact kInt) | refine ld1X K ?_ (hT := by first | exact kStr | exact kInt))
          | (go_at_call 34; refine (KW _ H.out.tb).mono ?_; rintro _ _ ⟨rfl, hB⟩; replace H := Lib.hid (H.out.go hB); clear X K; have X := Lib.hid (HX.out _ (H.out.hld HE.out)).2; have K := Lib.hid (HX.out _ (H.out.hld HE.out)).1; clear hB)
          | (go_at_call 67; refine (KWW _).mono ?_; rintro _ _ ⟨rfl, rfl⟩))
      go_ret
      first | exact ⟨rfl, H.out⟩ | (cases b2 <;> exact ⟨rfl, H.out⟩) | (trace_state; fail)
set_option maxHeartbeats 4000000 in
theorem name_any (w0 w : World) (m E : Ents) (br : Nat) (v : Value) (left : Int) (ts : List Tk) (H : Hid (Hp w0 w ((br, 79, [v, .int .i64 left]) :: m))) (V : Hid (VW E v ts)) (HE : Hid (∀ x ∈ E, x ∈ m)) : Calls Tryz.prog 20 #[.pointer (some ⟨br, 0, none⟩)] w fun e w' => ∃ v', e = .returned (.tuple #[.string ((nmeR ts).elim noS (·.1)), .bool (nmeR ts).isSome]) ∧ VW E v' ((nmeR ts).elim ts (·.2)) ∧ Hp w0 w' ((br, 79, [v', .int .i64 left]) :: m) := by
  cases ts with
  | nil =>
    obtain ⟨A, c, rfl, _⟩ := V.out.shape
    simp only [List.length_nil] at V H
    go_enter Tryz.func20, Tryz.ntmps20
    go_wp2_with (first
        | go_skip
        | ((with_reducible refine isLoad ?_); first | refine ld1A H ?_ (hT := by first | exact kWrs | exact kInt) | refine ld1X X ?_ (hT := by first | exact kStr | exact kInt) | refine ld1X K ?_ (hT := by first | exact kStr | exact kInt)))
    go_ret2
    first | exact ⟨_, rfl, V.out, H.out⟩ | exact ⟨rfl, _, V.out, H.out⟩ | exact ⟨rfl, H.out⟩ | (trace_state; fail)
  | cons t ts =>
    obtain ⟨A, c, rfl, _, _⟩ := V.out.shape
    obtain ⟨hok, hn, hc, hcm, g, o, rfl, hX⟩ := V.out.head
    have HX := Lib.hid hX
    have X := Lib.hid (HX.out w (H.out.hld (fun x hx => .tail _ (HE.out x hx)))).2
    have K := Lib.hid (HX.out w (H.out.hld (fun x hx => .tail _ (HE.out x hx)))).1
    simp only [List.length_cons] at H V hc
    clear hX hn
    obtain ⟨n, hnl⟩ : ∃ n, ts.length = n := ⟨_, rfl⟩
    rw [hnl] at V hc
    try rw [hnl] at H
    have hn0 : ¬ ((n : Int) + 1 = 0) := by omega
    obtain ⟨k, u⟩ := t
    simp only at X K HX hok

    by_cases hk : (k : Int) = 1
    · obtain rfl : k = 1 := by omega
      clear hk
      obtain ⟨b1, hb1⟩ : ∃ b, memS u kws = b := ⟨_, rfl⟩
      have KW := keyword_any u
      rw [hb1] at KW
      cases b1
      · have e0 : nmeR ((1, u) :: ts) = some (u, ts) := by simp only [nmeR, hb1]; rfl
        rw [e0]
        have V2 := V.out.tail
        simp only [Nat.add_sub_cancel] at V2
        have V2 := Lib.hid V2
        clear e0 hb1 V
        go_enter Tryz.func20, Tryz.ntmps20
        go_wp2_with (first
            | go_skip
            | ((with_reducible refine isLoad ?_); first | refine ld1A H ?_ (hT := by first | exact kWrs | exact kInt) | refine ld1X X ?_ (hT := by first | exact kStr | exact kInt) | refine ld1X K ?_ (hT := by first | exact kStr | exact kInt))
            | (go_at_call 34; refine (KW _ H.out.tb).mono ?_; rintro _ _ ⟨rfl, hB⟩; replace H := Lib.hid (H.out.go hB); clear X K; have X := Lib.hid (HX.out _ (H.out.hld (fun x hx => .tail _ (HE.out x hx)))).2; have K := Lib.hid (HX.out _ (H.out.hld (fun x hx => .tail _ (HE.out x hx)))).1; clear hB)
            | ((with_reducible refine isPart1 ?_); refine slTail (n := n + 1) ?_ (by omega) utWrs szWrd)
            | ((with_reducible refine isStore ?_); refine st1A H ?_ (hT := by first | exact sWrs | exact sInt); clear H; intro _ H))
        go_ret2
        first | exact ⟨_, rfl, V2.out, H.out⟩ | exact ⟨rfl, _, V2.out, H.out⟩ | (trace_state; fail)
      · have e0 : nmeR ((1, u) :: ts) = none := by simp only [nmeR, hb1]; rfl
        rw [e0]
        clear e0 hb1
        go_enter Tryz.func20, Tryz.ntmps20
        go_wp2_with (first
            | go_skip
            | ((with_reducible refine isLoad ?_); first | refine ld1A H ?_ (hT := by first | exact kWrs | exact kInt) | refine ld1X X ?_ (hT := by first | exact kStr | exact kInt) | refine ld1X K ?_ (hT := by first | exact kStr | exact kInt))
            | (go_at_call 34; refine (KW _ H.out.tb).mono ?_; rintro _ _ ⟨rfl, hB⟩; replace H := Lib.hid (H.out.go hB); clear X K; have X := Lib.hid (HX.out _ (H.out.hld (fun x hx => .tail _ (HE.out x hx)))).2; have K := Lib.hid (HX.out _ (H.out.hld (fun x hx => .tail _ (HE.out x hx)))).1; clear hB)
            | ((with_reducible refine isPart1 ?_); refine slTail (n := n + 1) ?_ (by omega) utWrs szWrd)
            | ((with_reducible refine isStore ?_); refine st1A H ?_ (hT := by first | exact sWrs | exact sInt); clear H; intro _ H))
        go_ret2
        first | exact ⟨_, rfl, V.out, H.out⟩ | exact ⟨rfl, _, V.out, H.out⟩ | exact ⟨rfl, H.out⟩ | (trace_state; fail)
    · have e0 : nmeR ((k, u) :: ts) = none := by simp only [nmeR]; rw [if_neg (by omega)]
      rw [e0]
      clear e0
      go_enter Tryz.func20, Tryz.ntmps20
      go_wp2_with (first
          | go_skip
          | ((with_reducible refine isLoad ?_); first | refine ld1A H ?_ (hT := by first | exact kWrs | exact kInt) | refine ld1X X ?_ (hT := by first | exact kStr | exact kInt) | refine ld1X K ?_ (hT := by first | exact kStr | exact kInt)))
      go_ret2
      first | exact ⟨_, rfl, V.out, H.out⟩ | exact ⟨rfl, _, V.out, H.out⟩ | exact ⟨rfl, H.out⟩ | (trace_state; fail)
end Go.Proofs.YtaiokjhjakdhaaaGreatDoor

namespace Go.Proofs.YtaiokjhjakdhaaaGreatDoor
open Go.RowKit
set_option linter.unusedVariables false
set_option maxRecDepth 100000

set_option maxHeartbeats 2000000 in
theorem text_cells (ga c m n : Nat) (w : World) (hm : m ≤ 30000) (hn : n < 256 ^ (4 * m)) (hY : ∀ (k x : Nat), (wDig m n)[k]? = some x → w.cell? ⟨ga, k, none⟩ = some (.int .u32 x)) :
    Calls Tryz.prog 118 #[.slice (some ⟨ga, 0, none⟩) m c] w fun e w' => e = .returned (.string (nS n)) ∧ Below w.heap.size w w' := by
  have hmk := run_make_row' (P := Tryz.prog) 95 5 (.int .u8 0) 1 Tryz.underlying95 info_u8 rfl .i64 .i64 (4 * m) (by omega) (by omega)
  have hm4 : (((4 * m : Nat) : Int)) = 4 * (m : Int) := by omega
  rw [hm4] at hmk
  have HN := Lib.hid hn
  clear hn hm4
  have X0 : Hid (Blk (w.alloc (.cells (madeCells #[.int .u8 0] (4 * m)) 5)) w.heap.size 5 (bC (tPart m n 0))) := by
    have e : madeCells #[.int .u8 0] (4 * m) = bC (tPart m n 0) := by
      rw [tPart_zero]
      apply Array.ext
      · simp [size_madeCells, bC]
      · intro i h1 h2
        simp [madeCells, Nat.mod_one, bC]
    unfold Hid
    rw [← e]
    exact Blk.new _ _ _
  have B0 := Lib.hid ((Below.refl w.heap.size w).alloc (Nat.le_refl _) (.cells (madeCells #[.int .u8 0] (4 * m)) 5))
  have Y := Lib.hid hY
  clear hY
  go_enter Tryz.func118, Tryz.ntmps118
  go_wp2_with fail
  clear hmk
  go_loopw [13] (fun i wr => ∃ k : Nat, i = .int .i64 k ∧ k ≤ m ∧ Hid (Blk wr w.heap.size 5 (bC (tPart m n k))) ∧ Hid (Below w.heap.size w wr)) (fun i _ => m - (intOf i).toNat)
  case atStart => exact ⟨0, rfl, by omega, X0, B0⟩
  case round =>
    clear X0 B0
    obtain ⟨k, rfl, hk, X, B⟩ := hrel
    by_cases hlt : k < m
    · obtain ⟨p, hp, hst⟩ := tPart_step (n := n) hlt
      have cw : wr.cell? ⟨ga, k, none⟩ = some (.int .u32 ((n / 4294967296 ^ k % 4294967296 : Nat) : Int)) := by
        have h0 := Y.out k _ (by unfold wDig; rw [List.getElem?_map, List.getElem?_range hlt]; rfl)
        exact (B.out.cell (World.block_lt_of_cell? w _ h0)).trans h0
      obtain ⟨x, hx⟩ : ∃ x, x = n / 4294967296 ^ k % 4294967296 := ⟨_, rfl⟩
      rw [← hx] at cw hst
      have hxl : x < 4294967296 := by rw [hx]; exact Nat.mod_lt _ (by decide)
      have e1 : 4 * ((m : Int) - 1 - k) = (p : Int) := by omega
      have hp4 : p + 3 < 4 * m := by omega
      have hp5 : (p : Int) + 3 < 4 * m := by omega
      have fz0 := X.out.frozen p
      have fz1 := X.out.frozen (p + 1)
      have fz2 := X.out.frozen (p + 2)
      have fz3 := X.out.frozen (p + 3)
      have at_ : ∀ j, j < 4 * m → ∃ u, wr.cell? ⟨w.heap.size, j, none⟩ = some u := fun j hj => by
        rw [X.out.cell]
        exact ⟨_, Array.getElem?_eq_getElem (by simp [bC, tPart_len]; exact hj)⟩
      obtain ⟨u0, cu0⟩ := at_ p (by omega)
      obtain ⟨u1, cu1⟩ := at_ (p + 1) (by omega)
      obtain ⟨u2, cu2⟩ := at_ (p + 2) (by omega)
      obtain ⟨u3, cu3⟩ := at_ (p + 3) (by omega)
      have HST := Lib.hid hst
      clear hx hst hp at_
      have X2 : Hid (Blk ((((wr.setCell ⟨w.heap.size, p, none⟩ (.int .u8 ((x : Int) / 16777216))).setCell ⟨w.heap.size, p + 1, none⟩ (.int .u8 ((x : Int) / 65536 % 256))).setCell ⟨w.heap.size, p + 2, none⟩ (.int .u8 ((x : Int) / 256 % 256))).setCell ⟨w.heap.size, p + 3, none⟩ (.int .u8 ((x : Int) % 256))) w.heap.size 5 (bC (tPart m n (k + 1)))) := by
        unfold Hid
        rw [HST.out, ← bC_set, ← bC_set, ← bC_set, ← bC_set]
        have v0 : (x : Int) / 16777216 = ((x / 16777216 % 256 : Nat) : Int) := by omega
        have v1 : (x : Int) / 65536 % 256 = ((x / 65536 % 256 : Nat) : Int) := by omega
        have v2 : (x : Int) / 256 % 256 = ((x / 256 % 256 : Nat) : Int) := by omega
        have v3 : (x : Int) % 256 = ((x % 256 : Nat) : Int) := by omega
        rw [v0, v1, v2, v3]
        exact (((X.out.set_ p _).set_ (p + 1) _).set_ (p + 2) _).set_ (p + 3) _
      have B2 : Hid (Below w.heap.size w ((((wr.setCell ⟨w.heap.size, p, none⟩ (.int .u8 ((x : Int) / 16777216))).setCell ⟨w.heap.size, p + 1, none⟩ (.int .u8 ((x : Int) / 65536 % 256))).setCell ⟨w.heap.size, p + 2, none⟩ (.int .u8 ((x : Int) / 256 % 256))).setCell ⟨w.heap.size, p + 3, none⟩ (.int .u8 ((x : Int) % 256)))) :=
        (((B.out.setCell (p := ⟨w.heap.size, p, none⟩) (Nat.le_refl _) _).setCell (p := ⟨w.heap.size, p + 1, none⟩) (Nat.le_refl _) _).setCell (p := ⟨w.heap.size, p + 2, none⟩) (Nat.le_refl _) _).setCell (p := ⟨w.heap.size, p + 3, none⟩) (Nat.le_refl _) _
      go_wp2_with fail
      go_roundw
      case rel => exact ⟨k + 1, by go_num, by omega, X2, B2⟩
      case measure => simp [intOf]; omega
    · have hkm : k = m := by omega
      subst hkm
      obtain ⟨z, hz⟩ := bePad_eq (4 * k) n HN.out
      have hl : (bePad (4 * k) n).length = 4 * k := by simp [bePad]
      have cv := run_convert_bytes_back (P := Tryz.prog) wr 95 9 5 ⟨w.heap.size, 0, none⟩ (4 * k) (bePad (4 * k) n) Tryz.underlying95 Tryz.underlying5 Tryz.underlying9 (fun j hj => by
        rw [Addr.add_lit, Nat.zero_add, X.out.cell, tPart_all]
        simp only [bC, List.map_map, List.getElem?_toArray, List.getElem?_map, List.getElem?_eq_getElem hj, Option.map_some]
        rfl)
      rw [hl] at cv
      have HZ : Hid ((⟨(bePad (4 * k) n).toArray⟩ : ByteArray).data.toList = List.replicate z 0 ++ digs n) := hz
      have hsz : (⟨(bePad (4 * k) n).toArray⟩ : ByteArray).size ≤ 1000000 := by rw [ba_size]; simp only [hl]; omega
      clear hz hl
      go_wp2_with fail
      refine (trim_pad _ z n _ HZ hsz).mono ?_
      rintro e w2 ⟨rfl, rfl⟩
      go_wp2
      go_ret
      exact ⟨rfl, B.out⟩
theorem kU32 : ∃ d, Tryz.prog.underlying 150 = some d ∧ d.isRow = false := ⟨_, Tryz.underlying150, rfl⟩
theorem sU32 : (Tryz.prog.info? 150).map (·.size) = some 1 := by kernel_rfl
theorem iU32 : InfoT Tryz.prog 150 1 4 := InfoT.of (z := .int .u32 0) (by kernel_rfl) (by kernel_rfl) rfl
set_option maxHeartbeats 2000000 in
theorem text_nil (w : World) : Calls Tryz.prog 118 #[.slice none 0 0] w fun e w' => e = .returned (.string ⟨#[]⟩) ∧ Below w.heap.size w w' := by
  have hmk := run_make_row' (P := Tryz.prog) 95 5 (.int .u8 0) 1 Tryz.underlying95 info_u8 rfl .i64 .i64 0 (by omega) (by omega)
  rw [show ((0 : Nat) : Int) = 0 from rfl] at hmk
  have B0 := Lib.hid ((Below.refl w.heap.size w).alloc (Nat.le_refl _) (.cells (madeCells #[.int .u8 0] 0) 5))
  go_enter Tryz.func118, Tryz.ntmps118
  go_wp2_with fail
  clear hmk
  go_loopw [13] (fun i wr => i = .int .i64 0 ∧ Hid (Below w.heap.size w wr)) (fun i _ => 0)
  case atStart => exact ⟨rfl, B0⟩
  case round =>
    clear B0
    obtain ⟨rfl, B⟩ := hrel
    have cv := run_convert_bytes_back (P := Tryz.prog) wr 95 9 5 ⟨w.heap.size, 0, none⟩ 0 [] Tryz.underlying95 Tryz.underlying5 Tryz.underlying9 (fun j hj => by simp at hj)
    simp only [List.length_nil] at cv
    go_wp2_with fail
    refine (trim_pad _ 0 0 _ (by simp [Hid, digs_zero]) (by decide)).mono ?_
    rintro e w2 ⟨rfl, rfl⟩
    rw [nS_0]
    go_wp2
    go_ret
    exact ⟨rfl, B.out⟩
theorem valD_snoc (l : List UInt8) (c : UInt8) : valD (l ++ [c]) = valD l * 10 + (c.toNat - 48) := by unfold valD; rw [List.foldl_append]; rfl
theorem dig_val {c : UInt8} (h : digitB c = true) : ∃ d : Nat, d ≤ 9 ∧ (c.toNat : Int) = 48 + d ∧ c.toNat - 48 = d := by
  have := (digit_iff c).1 h
  exact ⟨c.toNat - 48, by omega, by omega, rfl⟩
theorem valD_rlt : ∀ (l : List UInt8), l.all digitB = true → valD l.reverse < 10 ^ l.length
  | [], _ => by decide
  | c :: l, h => by
    simp only [List.all_cons, Bool.and_eq_true] at h
    have ih := valD_rlt l h.2
    obtain ⟨d, h1, _, h3⟩ := dig_val h.1
    rw [List.reverse_cons, valD_snoc, h3, List.length_cons, Nat.pow_succ]
    omega
theorem valD_lt {l : List UInt8} (h : l.all digitB = true) : valD l < 10 ^ l.length := by
  have := valD_rlt l.reverse (by rw [List.all_reverse]; exact h)
  rwa [List.reverse_reverse, List.length_reverse] at this
theorem valD_lt9 {l : List UInt8} (h : l.all digitB = true) (hl : l.length ≤ 9) : valD l < 1000000000 :=
  Nat.lt_of_lt_of_le (valD_lt h) (Nat.pow_le_pow_right (by decide) hl)
theorem wDig_one {n : Nat} (h : n < 4294967296) : wDig 1 n = [n] := by
  unfold wDig
  simp [Nat.mod_eq_of_lt h]
theorem row1_cur {v : Value} {x : Value} {cur : List Value} (h : RowV 1 v (0 + 1) ([] ++ [x]) cur) : ∃ g c rest, v = .slice (some ⟨g, 0, none⟩) 1 c ∧ cur = x :: rest := by
  rcases h.or_ with ⟨_, h1⟩ | ⟨g, cap, rfl, h1, h2, h3, h4⟩
  · omega
  · refine ⟨g, cap, cur.tail, rfl, ?_⟩
    cases cur with
    | nil => simp at h4
    | cons y t => simp at h4; rw [h4]; rfl
set_option maxHeartbeats 8000000 in
theorem natRead_ok (s : ByteArray) (w0 w : World) (m : Ents) (H : Hid (Hp w0 w m)) (hs : 0 < s.size ∧ s.size ≤ 9) (hz : ¬ (1 < s.size ∧ s.data.toList.head? = some 48)) (hd : Hid (s.data.toList.all digitB = true)) :
    Calls Tryz.prog 95 #[.string s] w fun e w' => e = .returned (.tuple #[.string (nS (valD s.data.toList)), .int .i64 0]) ∧ Hp w0 w' m := by
  have hlen : s.data.toList.length = s.size := by simp
  have hq1 := hs
  have Hlen := Lib.hid hlen
  clear hlen
  have hb0 := Lib.hid (byte_at hs.1)
  have hq : (s.toList == []) = false := str_neL [] (fun e => by have := hs.1; rw [e] at this; exact absurd this (by decide))
  have h00 : 1 < s.size → ((s[0]'hs.1).toNat : Int) ≠ 48 := fun h e => hz ⟨h, by
    rw [List.head?_eq_getElem?]; rw [hb0.out]; congr 1; exact UInt8.toNat_inj.1 (by show _ = 48; omega)⟩
  have VB : Hid (∀ k, k ≤ 9 → valD (s.data.toList.take k) < 1000000000) := Lib.hid fun k hk => valD_lt9 (List.all_eq_true.2 fun x hx => List.all_eq_true.1 hd.out x (List.mem_of_mem_take hx)) (by rw [List.length_take]; omega)
  obtain ⟨hs0, hs9⟩ := hs
  clear hz hq1
  by_cases h1 : (1 : Int) < s.size
  · have h2 : ((s[0].toNat : Int) == 48) = false := beq_eq_false_iff_ne.2 (h00 (by omega))
    clear h00 hb0
    go_enter Tryz.func95, Tryz.ntmps95
    go_wp2_with fail
    clear h2 h1
    go_loopw [4, 25] (fun l i wr => ∃ k : Nat, i = .int .i64 k ∧ k ≤ s.size ∧ ((l = .slice none 0 0 ∧ Hid (valD (s.data.toList.take k) = 0) ∧ Hid (Hp w0 wr m)) ∨ ∃ g c n cs, l = .slice (some ⟨g, 0, none⟩) 1 c ∧ Hid (valD (s.data.toList.take k) = n) ∧ 0 < n ∧ Hid (Hp w0 wr ((g, 150, .int .u32 (n : Nat) :: cs) :: m)))) (fun _ i _ => s.size - (intOf i).toNat)
    case atStart => exact ⟨0, rfl, by omega, .inl ⟨rfl, Lib.hid rfl, H⟩⟩
    case round =>
      clear H
      obtain ⟨k, rfl, hk, hst⟩ := hrel
      by_cases hlt : k < s.size
      · have hb := Lib.hid (byte_at hlt)
        obtain ⟨d, hd9, hdi, hdn⟩ := dig_val (List.all_eq_true.1 hd.out _ (List.mem_of_getElem? hb.out))
        have HV : Hid (valD (s.data.toList.take (k + 1)) = valD (s.data.toList.take k) * 10 + d) := by
          unfold Hid
          rw [List.take_add_one, hb.out, Option.toList_some, valD_snoc, hdn]
        have hvb := VB.out (k + 1) (by omega)
        rw [HV.out] at hvb
        have q1 : ¬ ((48 : Int) + d < 48) := by omega
        have q2 : ¬ ((57 : Int) < 48 + d) := by omega
        clear hb hdn
        rcases hst with ⟨rfl, HN, H⟩ | ⟨g, c, n, cs, rfl, HN, hn0, H⟩
        · rw [HN.out] at HV hvb
          go_wp2_with (first
            | go_skip)
          go_loopw [6, 45] (fun x j wr => x = .int .u64 (d : Nat) ∧ j = .int .i64 0 ∧ Hid (Hp w0 wr m)) (fun _ _ _ => 0)
          case atStart => exact ⟨congrArg (Value.int IntKind.u64) (by omega), rfl, H⟩
          case round =>
            clear H
            obtain ⟨rfl, rfl, H⟩ := hrel
            by_cases hd0 : d = 0
            · subst hd0
              go_wp2_with (first
                | go_skip)
              exact ⟨⟨k + 1, by go_num, by omega, .inl ⟨rfl, HV, H⟩⟩, by simp [intOf]; omega⟩
            · have hdp : (0 : Int) < d := by omega
              go_wp2_with (first
                | go_skip
                | ((with_reducible refine isSlc ?_); refine bsA 150 [.int .u32 (d : Nat)] 1 H ?_; clear H; intro gz _ H)
                | ((with_reducible refine isApp ?_); refine wpList_appH [(gz, 150, [.int .u32 (d : Nat)])] m H (Lib.hid (RowV.nil 1)) (by rfl) iU32 (by decide) Tryz.underlying146 (by rfl) (by rfl) (by rfl) (by rfl) (.head _) (by rfl) (by rfl) (by decide) (by decide) (by decide) ?_; clear H; intro v3 cur3 _ R H; obtain ⟨g3, c3, rest3, rfl, rfl⟩ := row1_cur R.out))
              refine ⟨⟨k + 1, by go_num, by omega, .inr ⟨g3, c3, d, rest3, rfl, Lib.hid (by rw [HV.out]; omega), by omega, Lib.hid H.out.drop⟩⟩, by simp [intOf]; omega⟩
        · rw [HN.out] at HV hvb
          go_wp2_with (first
            | go_skip)
          go_loopw [6, 45] (fun x j wr => (x = .int .u64 (d : Nat) ∧ j = .int .i64 0 ∧ Hid (Hp w0 wr ((g, 150, .int .u32 (n : Nat) :: cs) :: m))) ∨ (x = .int .u64 0 ∧ j = .int .i64 1 ∧ Hid (Hp w0 wr ((g, 150, .int .u32 ((n * 10 + d : Nat) : Nat) :: cs) :: m)))) (fun _ j _ => (1 - intOf j).toNat)
          case atStart => exact .inl ⟨congrArg (Value.int IntKind.u64) (by omega), rfl, H⟩
          case round =>
            clear H
            rcases hrel with ⟨rfl, rfl, H⟩ | ⟨rfl, rfl, H⟩
            · go_wp2_with (first
                | go_skip
                | ((with_reducible refine isLoad ?_); refine ld1A H ?_ (hT := kU32))
                | ((with_reducible refine isStore ?_); refine st1A H ?_ (hT := sU32); clear H; intro _ H))
              refine ⟨.inr ⟨congrArg (Value.int IntKind.u64) (by omega), rfl, ?_⟩, by simp [intOf]⟩
              have e : ((n * 10 + d : Nat) : Int) = (d : Int) + 10 * n := by omega
              rw [e]
              first | exact H | (rw [show ((d : Int) + 10 * n) % 4294967296 = d + 10 * n by omega] at H; exact H)
            · go_wp2_with (first
                | go_skip)
              exact ⟨⟨k + 1, by go_num, by omega, .inr ⟨g, c, _, cs, rfl, HV, by omega, H⟩⟩, by simp [intOf]; omega⟩
      · obtain rfl : k = s.size := by omega
        rw [List.take_of_length_le (by rw [Hlen.out]; exact Nat.le_refl _)] at hst
        rcases hst with ⟨rfl, HN, H⟩ | ⟨g, c, n, cs, rfl, HN, hn0, H⟩
        · go_wp2_with (first
            | go_skip
            | (go_at_call 118; refine (text_nil _).mono ?_; rintro _ _ ⟨rfl, hB⟩; replace H := Lib.hid (H.out.go hB); clear hB))
          go_ret2
          exact ⟨by rw [HN.out, nS_0]; rfl, H.out⟩
        · have hlt9 : n < 4294967296 := by
            have := VB.out s.size (by omega)
            rw [List.take_of_length_le (by rw [Hlen.out]; exact Nat.le_refl _), HN.out] at this
            omega
          have CC : Hid (∀ w, Hld ((g, 150, .int .u32 (n : Nat) :: cs) :: m) w → ∀ (k x : Nat), (wDig 1 n)[k]? = some x → w.cell? ⟨g, k, none⟩ = some (.int .u32 x)) := Lib.hid fun w hw k x hx => by
            rw [wDig_one hlt9] at hx
            cases k with
            | zero =>
              cases hx
              rw [(hw _ (.head _)).cell]
              rfl
            | succ k => simp at hx
          go_wp2_with (first
            | go_skip
            | (go_at_call 118; refine (text_cells g c 1 n _ (by decide) (by omega) (CC.out _ (H.out.hld (fun x hx => hx)))).mono ?_; rintro _ _ ⟨rfl, hB⟩; replace H := Lib.hid (H.out.go hB); clear hB))
          go_ret2
          exact ⟨by rw [HN.out]; rfl, H.out.drop⟩
  · clear h00 hb0
    go_enter Tryz.func95, Tryz.ntmps95
    go_wp2_with fail
    clear h1
    go_loopw [4, 25] (fun l i wr => ∃ k : Nat, i = .int .i64 k ∧ k ≤ s.size ∧ ((l = .slice none 0 0 ∧ Hid (valD (s.data.toList.take k) = 0) ∧ Hid (Hp w0 wr m)) ∨ ∃ g c n cs, l = .slice (some ⟨g, 0, none⟩) 1 c ∧ Hid (valD (s.data.toList.take k) = n) ∧ 0 < n ∧ Hid (Hp w0 wr ((g, 150, .int .u32 (n : Nat) :: cs) :: m)))) (fun _ i _ => s.size - (intOf i).toNat)
    case atStart => exact ⟨0, rfl, by omega, .inl ⟨rfl, Lib.hid rfl, H⟩⟩
    case round =>
      clear H
      obtain ⟨k, rfl, hk, hst⟩ := hrel
      by_cases hlt : k < s.size
      · have hb := Lib.hid (byte_at hlt)
        obtain ⟨d, hd9, hdi, hdn⟩ := dig_val (List.all_eq_true.1 hd.out _ (List.mem_of_getElem? hb.out))
        have HV : Hid (valD (s.data.toList.take (k + 1)) = valD (s.data.toList.take k) * 10 + d) := by
          unfold Hid
          rw [List.take_add_one, hb.out, Option.toList_some, valD_snoc, hdn]
        have hvb := VB.out (k + 1) (by omega)
        rw [HV.out] at hvb
        have q1 : ¬ ((48 : Int) + d < 48) := by omega
        have q2 : ¬ ((57 : Int) < 48 + d) := by omega
        clear hb hdn
        rcases hst with ⟨rfl, HN, H⟩ | ⟨g, c, n, cs, rfl, HN, hn0, H⟩
        · rw [HN.out] at HV hvb
          go_wp2_with (first
            | go_skip)
          go_loopw [6, 45] (fun x j wr => x = .int .u64 (d : Nat) ∧ j = .int .i64 0 ∧ Hid (Hp w0 wr m)) (fun _ _ _ => 0)
          case atStart => exact ⟨congrArg (Value.int IntKind.u64) (by omega), rfl, H⟩
          case round =>
            clear H
            obtain ⟨rfl, rfl, H⟩ := hrel
            by_cases hd0 : d = 0
            · subst hd0
              go_wp2_with (first
                | go_skip)
              exact ⟨⟨k + 1, by go_num, by omega, .inl ⟨rfl, HV, H⟩⟩, by simp [intOf]; omega⟩
            · have hdp : (0 : Int) < d := by omega
              go_wp2_with (first
                | go_skip
                | ((with_reducible refine isSlc ?_); refine bsA 150 [.int .u32 (d : Nat)] 1 H ?_; clear H; intro gz _ H)
                | ((with_reducible refine isApp ?_); refine wpList_appH [(gz, 150, [.int .u32 (d : Nat)])] m H (Lib.hid (RowV.nil 1)) (by rfl) iU32 (by decide) Tryz.underlying146 (by rfl) (by rfl) (by rfl) (by rfl) (.head _) (by rfl) (by rfl) (by decide) (by decide) (by decide) ?_; clear H; intro v3 cur3 _ R H; obtain ⟨g3, c3, rest3, rfl, rfl⟩ := row1_cur R.out))
              refine ⟨⟨k + 1, by go_num, by omega, .inr ⟨g3, c3, d, rest3, rfl, Lib.hid (by rw [HV.out]; omega), by omega, Lib.hid H.out.drop⟩⟩, by simp [intOf]; omega⟩
        · rw [HN.out] at HV hvb
          go_wp2_with (first
            | go_skip)
          go_loopw [6, 45] (fun x j wr => (x = .int .u64 (d : Nat) ∧ j = .int .i64 0 ∧ Hid (Hp w0 wr ((g, 150, .int .u32 (n : Nat) :: cs) :: m))) ∨ (x = .int .u64 0 ∧ j = .int .i64 1 ∧ Hid (Hp w0 wr ((g, 150, .int .u32 ((n * 10 + d : Nat) : Nat) :: cs) :: m)))) (fun _ j _ => (1 - intOf j).toNat)
          case atStart => exact .inl ⟨congrArg (Value.int IntKind.u64) (by omega), rfl, H⟩
          case round =>
            clear H
            rcases hrel with ⟨rfl, rfl, H⟩ | ⟨rfl, rfl, H⟩
            · go_wp2_with (first
                | go_skip
                | ((with_reducible refine isLoad ?_); refine ld1A H ?_ (hT := kU32))
                | ((with_reducible refine isStore ?_); refine st1A H ?_ (hT := sU32); clear H; intro _ H))
              refine ⟨.inr ⟨congrArg (Value.int IntKind.u64) (by omega), rfl, ?_⟩, by simp [intOf]⟩
              have e : ((n * 10 + d : Nat) : Int) = (d : Int) + 10 * n := by omega
              rw [e]
              first | exact H | (rw [show ((d : Int) + 10 * n) % 4294967296 = d + 10 * n by omega] at H; exact H)
            · go_wp2_with (first
                | go_skip)
              exact ⟨⟨k + 1, by go_num, by omega, .inr ⟨g, c, _, cs, rfl, HV, by omega, H⟩⟩, by simp [intOf]; omega⟩
      · obtain rfl : k = s.size := by omega
        rw [List.take_of_length_le (by rw [Hlen.out]; exact Nat.le_refl _)] at hst
        rcases hst with ⟨rfl, HN, H⟩ | ⟨g, c, n, cs, rfl, HN, hn0, H⟩
        · go_wp2_with (first
            | go_skip
            | (go_at_call 118; refine (text_nil _).mono ?_; rintro _ _ ⟨rfl, hB⟩; replace H := Lib.hid (H.out.go hB); clear hB))
          go_ret2
          exact ⟨by rw [HN.out, nS_0]; rfl, H.out⟩
        · have hlt9 : n < 4294967296 := by
            have := VB.out s.size (by omega)
            rw [List.take_of_length_le (by rw [Hlen.out]; exact Nat.le_refl _), HN.out] at this
            omega
          have CC : Hid (∀ w, Hld ((g, 150, .int .u32 (n : Nat) :: cs) :: m) w → ∀ (k x : Nat), (wDig 1 n)[k]? = some x → w.cell? ⟨g, k, none⟩ = some (.int .u32 x)) := Lib.hid fun w hw k x hx => by
            rw [wDig_one hlt9] at hx
            cases k with
            | zero =>
              cases hx
              rw [(hw _ (.head _)).cell]
              rfl
            | succ k => simp at hx
          go_wp2_with (first
            | go_skip
            | (go_at_call 118; refine (text_cells g c 1 n _ (by decide) (by omega) (CC.out _ (H.out.hld (fun x hx => hx)))).mono ?_; rintro _ _ ⟨rfl, hB⟩; replace H := Lib.hid (H.out.go hB); clear hB))
          go_ret2
          exact ⟨by rw [HN.out]; rfl, H.out.drop⟩
end Go.Proofs.YtaiokjhjakdhaaaGreatDoor

namespace Go.Proofs.YtaiokjhjakdhaaaGreatDoor
open Go.RowKit
set_option linter.unusedVariables false
set_option maxRecDepth 100000

set_option maxHeartbeats 2000000 in
theorem natRead_bad (s : ByteArray) (w : World) (hs : 1 < s.size ∧ s.size ≤ 9) (hz : s.data.toList.head? = some 48) :
    Calls Tryz.prog 95 #[.string s] w fun e w' => e = .returned (.tuple #[.string ⟨#[]⟩, .int .i64 15]) ∧ w = w' := by
  obtain ⟨hs1, hs9⟩ := hs
  have hb0 := byte_at (show 0 < s.size by omega)
  have hq : (s.toList == []) = false := str_neL [] (fun e => by rw [e] at hs1; exact absurd hs1 (by decide))
  have h2 : ((s[0].toNat : Int) == 48) = true := by
    rw [List.head?_eq_getElem?, hb0] at hz
    cases hz2 : s[0] with
    | _ => simp only [Option.some.injEq] at hz; rw [hz2] at hz; rw [hz]; rfl
  have h1 : (1 : Int) < s.size := by omega
  clear hb0 hz
  go_enter Tryz.func95, Tryz.ntmps95
  go_wp2_with fail
  go_ret2
  exact ⟨rfl, rfl⟩
/-- nat.Read at digits. -/
theorem natRead_any (s : ByteArray) (w0 w : World) (m : Ents) (H : Hid (Hp w0 w m)) (hs : 0 < s.size ∧ s.size ≤ 9) (hd : s.data.toList.all digitB = true) :
    Calls Tryz.prog 95 #[.string s] w fun e w' => e = .returned (.tuple #[.string ((natR s.data.toList).elim ⟨#[]⟩ nS), .int .i64 ((natR s.data.toList).elim 15 (fun _ => 0))]) ∧ Hp w0 w' m := by
  have hl : s.data.toList.length = s.size := by simp
  have hne : s.data.toList ≠ [] := fun e => by rw [e] at hl; simp at hl; omega
  unfold natR
  rw [if_neg hne, hl, hd]
  by_cases hz : 1 < s.size ∧ s.data.toList.head? = some 48
  · rw [if_pos hz]
    refine (natRead_bad s w ⟨hz.1, hs.2⟩ hz.2).mono ?_
    rintro _ _ ⟨rfl, rfl⟩
    exact ⟨rfl, H.out⟩
  · rw [if_neg hz]
    exact natRead_ok s w0 w m H hs hz (Lib.hid hd)
theorem iU8 : InfoT Tryz.prog 5 1 1 := InfoT.of (z := .int .u8 0) (by kernel_rfl) (by kernel_rfl) rfl
def lenS : Value → Nat
  | .slice _ n _ => n
  | _ => 0
def u8c (c : UInt8) : Value := .int .u8 (c.toNat : Int)
theorem dec_step {n q r : Nat} (h : n = 10 * q + r) (hr : r < 10) : Lib.decDigits n = (if q = 0 then [] else Lib.decDigits q) ++ [UInt8.ofNat (48 + r)] := by
  rw [Lib.decDigits]
  split
  · rename_i h1
    rw [if_pos (by omega), show n = r by omega]; rfl
  · rename_i h1
    rw [if_neg (by omega), show n / 10 = q by omega, show n % 10 = r by omega]
theorem len_le9 {n q k : Nat} (h : q * 10 ^ k ≤ n) (hq : 0 < q) (hn : n < 4294967296) : k ≤ 9 := by
  rcases Nat.lt_or_ge k 10 with h1 | h1
  · omega
  · have h2 : 10 ^ 10 ≤ 10 ^ k := Nat.pow_le_pow_right (by decide) h1
    have h3 : 10 ^ k ≤ q * 10 ^ k := Nat.le_mul_of_pos_left _ hq
    have h4 : (10 : Nat) ^ 10 = 10000000000 := by decide
    omega
theorem u8_dig {r : Nat} (h : r < 10) : u8c (UInt8.ofNat (48 + r)) = .int .u8 (48 + (r : Int)) := by
  unfold u8c
  rw [UInt8.toNat_ofNat']
  congr 1
  omega
theorem rowk_cur {B : Option Addr} {k c : Nat} {ds : List UInt8} {cur : List Value} (h : RowV 1 (.slice B k c) k (ds.map u8c) cur) (hk : 0 < k) : ∃ g rest, B = some ⟨g, 0, none⟩ ∧ cur = ds.map u8c ++ rest := by
  rcases h.or_ with ⟨_, h1⟩ | ⟨g, cap, e, h1, h2, h3, h4⟩
  · omega
  · cases e
    refine ⟨g, cur.drop (k * 1), rfl, ?_⟩
    rw [← h4, List.take_append_drop]
theorem row_at {zs : List UInt8} {j : Nat} {x : UInt8} {rest : List Value} (h : zs[j]? = some x) : (zs.map u8c ++ rest).toArray[j]? = some (.int .u8 (x.toNat : Int)) := by
  have hj := (List.getElem?_eq_some_iff.1 h).1
  rw [List.getElem?_toArray, List.getElem?_append_left (by simpa using hj), List.getElem?_map, h]
  rfl
theorem Hp.setJ {w0 w : World} {l l' : Ents} {g j : Nat} {t : TypeId} {cs ds : List Value} {v : Value} (H : Hp w0 w l) (hu : Upd l g t cs ds l') (hd : cs.set j v = ds) : Hp w0 (w.setCell ⟨g, j, none⟩ v) l' :=
  H.stored hu ⟨(setCells_far [v] j w).2, fun k _ hk => (setCells_far [v] j w).1 k hk⟩ (by
    have := (H.blk _ hu.mem).2.set_ j v
    simp only [List.setIfInBounds_toArray, hd] at this
    exact this)
/-- Turned round up to a, and from b on. -/
def RvT (ds zs : List UInt8) (k a b : Nat) : Prop := zs.length = k ∧ ds.length = k ∧ ∀ j, j < k → zs[j]? = if j < a ∨ b < j then ds[k - 1 - j]? else ds[j]?
theorem RvT.start {ds : List UInt8} {k : Nat} (h : ds.length = k) : RvT ds ds k 0 (k - 1) := ⟨h, h, fun j hj => by rw [if_neg (by omega)]⟩
theorem RvT.swap {ds zs : List UInt8} {k a b : Nat} {x y : UInt8} (h : RvT ds zs k a b) (hk : a + b + 1 = k) (hab : a < b) (hx : zs[a]? = some x) (hy : zs[b]? = some y) : RvT ds ((zs.set a y).set b x) k (a + 1) (b - 1) := by
  obtain ⟨h1, h2, h3⟩ := h
  refine ⟨by simpa using h1, h2, fun j hj => ?_⟩
  have ha := h3 a (by omega)
  have hb := h3 b (by omega)
  rw [if_neg (by omega)] at ha hb
  rw [hx] at ha
  rw [hy] at hb
  by_cases e1 : j = b
  · subst e1
    rw [List.getElem?_set_self (by simp; omega), if_pos (by omega), show k - 1 - j = a by omega]
    exact ha
  · rw [List.getElem?_set_ne (fun e => e1 e.symm)]
    by_cases e2 : j = a
    · subst e2
      rw [List.getElem?_set_self (by omega), if_pos (by omega), show k - 1 - j = b by omega]
      exact hb
    · rw [List.getElem?_set_ne (fun e => e2 e.symm), h3 j hj]
      by_cases e3 : j < a ∨ b < j
      · rw [if_pos e3, if_pos (by omega)]
      · rw [if_neg e3, if_neg (by omega)]
theorem RvT.end_ {ds zs : List UInt8} {k a b : Nat} (h : RvT ds zs k a b) (hk : a + b + 1 = k) (hab : ¬ a < b) : zs = ds.reverse := by
  obtain ⟨h1, h2, h3⟩ := h
  apply List.ext_getElem?
  intro j
  rcases Nat.lt_or_ge j k with hj | hj
  · rw [h3 j hj, List.getElem?_reverse (by omega), h2]
    split
    · rfl
    · rename_i hn
      rw [show k - 1 - j = j by omega]
  · rw [List.getElem?_eq_none (by omega), List.getElem?_eq_none (by simp; omega)]
set_option maxHeartbeats 8000000 in
theorem natText_any (n : Nat) (w0 w : World) (m : Ents) (H : Hid (Hp w0 w m)) (hn : n < 4294967296) : Calls Tryz.prog 60 #[.string (nS n)] w fun e w' => e = .returned (.string (decT n)) ∧ Hp w0 w' m := by
  have hsz : (nS n).size ≤ 4 := by rw [nS_size]; exact digs_len (k := 4) hn
  have WA := words_any n w (by omega)
  by_cases h0 : n = 0
  · subst h0
    rw [show ((nS 0).size + 3) / 4 = 0 by rw [nS_empty.2 rfl]] at WA
    go_enter Tryz.func60, Tryz.ntmps60
    go_wp2_with fail
    refine WA.mono ?_
    rintro e w1 ⟨g, rfl, hg, hX, hb1⟩
    replace H := Lib.hid (H.out.go hb1)
    clear hX hb1 WA
    go_wp2_with fail
    go_loopw [3, 4] (fun l o wr => l = .slice (some ⟨g, 0, none⟩) 0 0 ∧ o = .slice none 0 0 ∧ Hid (Hp w0 wr m)) (fun l _ _ => 0)
    case atStart => exact ⟨rfl, rfl, H⟩
    case round =>
      clear H
      obtain ⟨rfl, rfl, H⟩ := hrel
      go_wp2_with fail
      go_ret
      exact ⟨by unfold decT; rw [Lib.decDigits]; rfl, H.out⟩
  · have hm1 : ((nS n).size + 3) / 4 = 1 := by have := nS_pos (show 0 < n by omega); omega
    rw [hm1, wDig_one hn] at WA
    have HNN := Lib.hid hn
    go_enter Tryz.func60, Tryz.ntmps60
    go_wp2_with fail
    refine WA.mono ?_
    rintro e w1 ⟨g, rfl, hg, hX, hb1⟩
    have H1 := Lib.hid (H.out.fresh hb1 hg (show Blk w1 g 150 [Value.int .u32 (n : Nat)].toArray from hX))
    clear hX hb1 WA H hg hm1 hsz
    go_wp2_with fail
    go_loopw [3, 4] (fun l o wr => ∃ (ds : List UInt8) (k : Nat) (cur : List Value) (q : Nat), ds.length = k ∧ Hid (RowV 1 o k (ds.map u8c) cur) ∧ Hid (Hp w0 wr ((g, 150, [.int .u32 (q : Nat)]) :: (rowE o 5 cur ++ m))) ∧ k ≤ 10 ∧ ((l = .slice (some ⟨g, 0, none⟩) 1 1 ∧ 0 < q ∧ Hid (q * 10 ^ k ≤ n) ∧ Hid (Lib.decDigits n = Lib.decDigits q ++ ds.reverse)) ∨ (l = .slice (some ⟨g, 0, none⟩) 0 1 ∧ 0 < k ∧ Hid (Lib.decDigits n = ds.reverse)))) (fun _ o _ => 20 - lenS o)
    case atStart => exact ⟨[], 0, [], n, rfl, Lib.hid (RowV.nil 1), H1, by omega, .inl ⟨rfl, by omega, Lib.hid (by simp), Lib.hid (by simp)⟩⟩
    case round =>
      clear H1
      obtain ⟨ds, k, cur, q, hk, R, H, hk10, hst⟩ := hrel
      obtain ⟨B, c, rfl, hcm⟩ := R.out.shape
      rcases hst with ⟨rfl, hq0, HB, HD⟩ | ⟨rfl, hk0, HD⟩
      · have hk9 : k ≤ 9 := len_le9 HB.out hq0 HNN.out
        obtain ⟨p, r, hpr, hr⟩ : ∃ p r, q = 10 * p + r ∧ r < 10 := ⟨q / 10, q % 10, by omega, by omega⟩
        have hqn : q < 4294967296 := by
          have h1 : q * 1 ≤ q * 10 ^ k := Nat.mul_le_mul_left _ (Nat.pow_pos (by decide))
          have := HB.out; have := HNN.out; omega
        have hor : bits .or .u64 (0 : Int) (q : Int) = (q : Int) := by
          have := u64_or_nat 0 q (by omega) (by omega)
          rw [Nat.zero_or] at this
          exact this
        have htm : (q : Int).tmod 10 = (r : Int) := by rw [Int.tmod_eq_emod_of_nonneg (by omega)]; omega
        have htd : (q : Int).tdiv 10 = (p : Int) := by rw [Int.tdiv_eq_ediv_of_nonneg (by omega)]; omega
        have hwp : IntKind.u64.wrap (p : Int) = (p : Int) := by rw [IntWalk.u64_in _ (by omega)]
        have hwp2 : (p : Int) % 4294967296 = p := by omega
        have HPR := Lib.hid hpr
        clear hpr
        go_wp2_with fail
        go_loopw [5, 6] (fun x i wr => (x = .int .u64 0 ∧ i = .int .i64 0 ∧ Hid (Hp w0 wr ((g, 150, [.int .u32 (q : Nat)]) :: (rowE (.slice B k c) 5 cur ++ m)))) ∨ (x = .int .u64 (r : Nat) ∧ i = .int .i64 (-1) ∧ Hid (Hp w0 wr ((g, 150, [.int .u32 (p : Nat)]) :: (rowE (.slice B k c) 5 cur ++ m))))) (fun _ i _ => (intOf i + 1).toNat)
        case atStart => exact .inl ⟨rfl, rfl, H⟩
        case round =>
          clear H
          rcases hrel with ⟨rfl, rfl, H⟩ | ⟨rfl, rfl, H⟩
          · go_wp2_with (first
              | go_skip
              | ((with_reducible refine isLoad ?_); refine ld1A H ?_ (hT := kU32))
              | ((with_reducible refine isStore ?_); refine st1A H ?_ (hT := sU32); clear H; intro _ H))
            exact ⟨.inr ⟨rfl, rfl, H⟩, by simp [intOf]⟩
          · go_wp2_with (first
              | go_skip
              | ((with_reducible refine isSlc ?_); refine bsA 5 [.int .u8 (48 + (r : Int))] 1 H ?_; clear H; intro gz _ H)
              | ((with_reducible refine isApp ?_); refine wpList_appH [(gz, 5, [.int .u8 (48 + (r : Int))]), (g, 150, [.int .u32 (p : Nat)])] m H R (by rfl) iU8 (by decide) Tryz.underlying95 (by rfl) (by rfl) (by rfl) (by rfl) (.head _) (by rfl) (by rfl) (by decide) (by simp only [maxLen]; omega) (by omega) ?_; clear H R; intro v3 cur3 _ R H; obtain ⟨B3, c3, rfl, _⟩ := R.out.shape))
            have H2 := Lib.hid (H.out.drop)
            have R2 : Hid (RowV 1 (.slice B3 (k + 1) c3) (k + 1) ((ds ++ [UInt8.ofNat (48 + r)]).map u8c) cur3) := by
              have := R.out
              rw [← u8_dig hr] at this
              simpa using Lib.hid this
            have HD2 : Hid (Lib.decDigits n = (if p = 0 then [] else Lib.decDigits p) ++ (ds ++ [UInt8.ofNat (48 + r)]).reverse) := Lib.hid (by
              rw [HD.out, dec_step HPR.out hr, List.reverse_append, List.append_assoc]; rfl)
            have HL2 : (ds ++ [UInt8.ofNat (48 + r)]).length = k + 1 := by simp [hk]
            clear H R
            by_cases hp0 : p = 0
            · subst hp0
              go_loopw [3] (fun l wr => (l = .slice (some ⟨g, 0, none⟩) 1 1 ∨ l = .slice (some ⟨g, 0, none⟩) 0 1) ∧ Hid (Hp w0 wr ((g, 150, [.int .u32 (0 : Nat)]) :: (rowE (.slice B3 (k + 1) c3) 5 cur3 ++ m)))) (fun l _ => lenS l)
              case atStart => exact ⟨.inl rfl, H2⟩
              case round =>
                clear H2
                obtain ⟨hl, H2⟩ := hrel
                rcases hl with rfl | rfl
                · go_wp2_with (first
                    | go_skip
                    | ((with_reducible refine isLoad ?_); refine ld1A H2 ?_ (hT := kU32)))
                  exact ⟨⟨.inr rfl, H2⟩, by simp [lenS]⟩
                · go_wp2_with (first
                    | go_skip)
                  exact ⟨⟨_, k + 1, cur3, 0, HL2, R2, H2, by omega, .inr ⟨rfl, by omega, Lib.hid HD2.out⟩⟩, by simp [lenS]; omega⟩
            · have hpq : ((p : Int) == 0) = false := beq_eq_false_iff_ne.2 (by omega)
              go_loopw [3] (fun l wr => l = .slice (some ⟨g, 0, none⟩) 1 1 ∧ Hid (Hp w0 wr ((g, 150, [.int .u32 (p : Nat)]) :: (rowE (.slice B3 (k + 1) c3) 5 cur3 ++ m)))) (fun l _ => lenS l)
              case atStart => exact ⟨rfl, H2⟩
              case round =>
                clear H2
                obtain ⟨rfl, H2⟩ := hrel
                go_wp2_with (first
                  | go_skip
                  | ((with_reducible refine isLoad ?_); refine ld1A H2 ?_ (hT := kU32)))
                refine ⟨⟨_, k + 1, cur3, p, HL2, R2, H2, by omega, .inl ⟨rfl, by omega, Lib.hid ?_, Lib.hid (by rw [HD2.out, if_neg hp0])⟩⟩, by simp [lenS]; omega⟩
                have h1 : p * 10 ^ (k + 1) = 10 * p * 10 ^ k := by rw [Nat.pow_succ, Nat.mul_comm (10 ^ k), ← Nat.mul_assoc, Nat.mul_comm p]
                have h2 : 10 * p * 10 ^ k ≤ q * 10 ^ k := Nat.mul_le_mul_right _ (by have := HPR.out; omega)
                have := HB.out
                omega
      · obtain ⟨h, rest, rfl, hcur⟩ := rowk_cur R.out hk0
        subst hcur
        have HK := Lib.hid hk
        clear R hk
        have hk00 : ((k : Int) == 0) = false := beq_eq_false_iff_ne.2 (by omega)
        go_wp2_with (first
          | go_skip)
        go_loopw [7, 8] (fun i j wr => ∃ (a b : Nat) (zs : List UInt8), i = .int .i64 a ∧ j = .int .i64 b ∧ a + b + 1 = k ∧ Hid (RvT ds zs k a b) ∧ Hid (Hp w0 wr ((g, 150, [.int .u32 (q : Nat)]) :: (h, 5, zs.map u8c ++ rest) :: m))) (fun _ j _ => (intOf j).toNat)
        case atStart => exact ⟨0, k - 1, ds, rfl, congrArg (Value.int IntKind.i64) (by omega), by omega, Lib.hid (RvT.start HK.out), H⟩
        case round =>
          clear H
          obtain ⟨a, b, zs, rfl, rfl, hab, RV, H⟩ := hrel
          by_cases hlt : a < b
          · obtain ⟨x, hx⟩ : ∃ x, zs[a]? = some x := ⟨_, List.getElem?_eq_getElem (by rw [RV.out.1]; omega)⟩
            obtain ⟨y, hy⟩ : ∃ y, zs[b]? = some y := ⟨_, List.getElem?_eq_getElem (by rw [RV.out.1]; omega)⟩
            have X := (H.out.blk (h, 5, zs.map u8c ++ rest) (.tail _ (.head _))).2
            have cx : wr.cell? ⟨h, a, none⟩ = some (.int .u8 (x.toNat : Int)) := by rw [X.cell]; exact row_at hx
            have cy : wr.cell? ⟨h, b, none⟩ = some (.int .u8 (y.toNat : Int)) := by rw [X.cell]; exact row_at hy
            have fx := X.frozen a
            have fy := X.frozen b
            have hab2 : (a : Int) < b := by omega
            have hbk : (b : Int) < k := by omega
            have hak : (a : Int) < k := by omega
            have XX := Lib.hid X
            clear X
            go_wp2_with fail
            go_region
            have HA := H.out.setJ (j := a) (v := .int .u8 (y.toNat : Int)) (.tail .head) (rfl)
            have HB2 := HA.setJ (j := b) (v := .int .u8 (x.toNat : Int)) (.tail .head) (rfl)
            have ec : ((zs.map u8c ++ rest).set a (.int .u8 (y.toNat : Int))).set b (.int .u8 (x.toNat : Int)) = ((zs.set a y).set b x).map u8c ++ rest := by
              rw [List.set_append_left _ _ (by rw [List.length_map, RV.out.1]; omega), List.set_append_left _ _ (by rw [List.length_set, List.length_map, RV.out.1]; omega), List.map_set, List.map_set]; rfl
            rw [ec] at HB2
            have H2 := Lib.hid (HB2.go (Below.refl _ _).drew)
            have RV2 := Lib.hid (RV.out.swap hab hlt hx hy)
            clear HA HB2 H XX cx cy fx fy hx hy
            go_wp2_with fail
            have e7 : Value.int .i64 ((a : Int) + 1) = .int .i64 ((a + 1 : Nat) : Int) := congrArg (Value.int IntKind.i64) (by omega)
            have e8 : Value.int .i64 ((b : Int) - 1) = .int .i64 ((b - 1 : Nat) : Int) := congrArg (Value.int IntKind.i64) (by omega)
            go_roundw
            case rel => exact ⟨a + 1, b - 1, _, e7, e8, by omega, RV2, H2⟩
            case measure => simp [intOf]; omega
          · have hz := RV.out.end_ hab hlt
            have X := (H.out.blk (h, 5, zs.map u8c ++ rest) (.tail _ (.head _))).2
            have cv := run_convert_bytes_back (P := Tryz.prog) wr 95 9 5 ⟨h, 0, none⟩ c zs Tryz.underlying95 Tryz.underlying5 Tryz.underlying9 (fun j hj => by
              rw [Addr.add_lit, Nat.zero_add, X.cell]
              exact row_at (List.getElem?_eq_getElem hj))
            rw [RV.out.1] at cv
            have HZ := Lib.hid hz
            clear hz X
            go_wp2_with fail
            go_ret
            exact ⟨by unfold decT; rw [HZ.out, HD.out]; rfl, H.out.drop.drop⟩
end Go.Proofs.YtaiokjhjakdhaaaGreatDoor

namespace Go.Proofs.YtaiokjhjakdhaaaGreatDoor
open Go.RowKit
set_option linter.unusedVariables false
set_option maxRecDepth 100000

theorem decDigits_len : ∀ (k u : Nat), u < 10 ^ (k + 1) → (Lib.decDigits u).length ≤ k + 1
  | 0, u, h => by rw [Lib.decDigits, dif_pos (by simpa using h)]; simp
  | k + 1, u, h => by
    rw [Lib.decDigits]
    split
    · simp
    · rw [Nat.pow_succ] at h
      have := decDigits_len k (u / 10) (by omega)
      simp
      omega
theorem decT_size {n : Nat} (h : n < 4294967296) : (decT n).size ≤ 10 := by
  have := decDigits_len 9 n (Nat.lt_of_lt_of_le h (by decide))
  rw [ba_size]
  exact this
theorem ratT2_one {q : Rat} (h : q.den = 1) : ratT2 q = decT q.num.natAbs := by unfold ratT2; rw [if_pos h]
theorem ratT2_div {q : Rat} (h : ¬ q.den = 1) : ratT2 q = decT q.num.natAbs ++ (⟨#[47]⟩ ++ decT q.den) := by
  unfold ratT2
  rw [if_neg h]
  apply ba_ext
  simp [decT]
theorem den_one {n : Nat} : ((nS n).toList == [1]) = decide (n = 1) := by
  rw [Bool.eq_iff_iff, decide_eq_true_iff, beq_iff_eq]
  constructor
  · intro h
    exact nS_inj (ba_ext (by rw [← ba_toList, h, nS_one]))
  · rintro rfl
    rw [ba_toList, nS_one]
/-- t is the text of the number s. -/
def Txt (s t : ByteArray) : Prop := ∃ n, n < 4294967296 ∧ s = nS n ∧ t = decT n
theorem txt_any (s t : ByteArray) (w0 w : World) (m : Ents) (h : Txt s t) (H : Hid (Hp w0 w m)) : Calls Tryz.prog 60 #[.string s] w fun e w' => e = .returned (.string t) ∧ Hp w0 w' m := by
  obtain ⟨n, h1, rfl, rfl⟩ := h
  exact natText_any n w0 w m H h1
set_option maxHeartbeats 4000000 in
theorem ratText_any (q : Rat) (w0 w : World) (m : Ents) (H : Hid (Hp w0 w m)) (h0 : 0 ≤ q.num) (hn : q.num.natAbs < 4294967296) (hd : q.den < 4294967296) :
    Calls Tryz.prog 41 #[.agg #[.bool (sgO (some q)), .string (nuO (some q)), .string (deO (some q))]] w fun e w' => e = .returned (.string (ratT2 q)) ∧ Hp w0 w' m := by
  have SM : Hid (Sm q) := Lib.hid (Sz.sm (k := 4) ⟨hn, hd⟩ (by decide))
  have FT : Hid (∀ w', Tb w' → Calls Tryz.prog 59 #[.agg #[.bool (sgO (some q)), .string (nuO (some q)), .string (deO (some q))]] w' fun e w2 => e = .returned (.agg #[.bool (sgO (some q)), .string (nuO (some q)), .string (deO (some q))]) ∧ Below w'.heap.size w' w2) := Lib.hid fun w' hT => fit_any (some q) w' SM.out hT
  have T1 : Txt (nuO (some q)) (decT q.num.natAbs) := ⟨_, hn, rfl, rfl⟩
  have T2 : Txt (deO (some q)) (decT q.den) := ⟨_, hd, rfl, rfl⟩
  have hsg : sgO (some q) = false := decide_eq_false (by omega)
  have sz1 := decT_size hn
  have sz2 := decT_size hd
  have hdo : ((deO (some q)).toList == [1]) = decide (q.den = 1) := den_one
  obtain ⟨N, hN⟩ : ∃ N, nuO (some q) = N := ⟨_, rfl⟩
  obtain ⟨D, hD⟩ : ∃ D, deO (some q) = D := ⟨_, rfl⟩
  rw [hsg, hN, hD] at FT
  rw [hN] at T1
  rw [hD] at T2 hdo
  rw [hsg, hN, hD]
  clear hN hD hsg SM hn hd h0
  obtain ⟨x, hx⟩ : ∃ x, decT q.num.natAbs = x := ⟨_, rfl⟩
  obtain ⟨y, hy⟩ : ∃ y, decT q.den = y := ⟨_, rfl⟩
  by_cases h1 : q.den = 1
  · rw [decide_eq_true h1] at hdo
    rw [ratT2_one h1, hx]
    rw [hx] at T1 sz1
    clear hx hy T2 sz2 h1
    go_enter Tryz.func41, Tryz.ntmps41
    go_wp2_with (first
        | go_skip
        | ((with_reducible refine isLoad ?_); first | refine ldA H ?_ (hT := rRat) | refine ld1A H ?_ (hT := by first | exact kStr | exact kBool))
        | ((with_reducible refine isStore ?_); refine stA H ?_ (hT := rRat); clear H; intro _ H)
        | ((with_reducible refine isBox ?_); refine bxA H ?_; clear H; intro _ _ H)
        | (go_at_call 59; refine (FT.out _ H.out.tb).mono ?_; rintro _ _ ⟨rfl, hB⟩; replace H := Lib.hid (H.out.go hB); clear hB)
        | (go_at_call 60; refine (txt_any _ _ w0 _ _ (by assumption) H).mono ?_; rintro _ _ ⟨rfl, hH⟩; replace H := Lib.hid hH; clear hH))
    go_ret
    first | exact ⟨rfl, H.out.drop⟩ | (trace_state; fail)
  · rw [decide_eq_false h1] at hdo
    rw [ratT2_div h1, hx, hy]
    rw [hx] at T1 sz1
    rw [hy] at T2 sz2
    clear hx hy h1
    go_enter Tryz.func41, Tryz.ntmps41
    go_wp2_with (first
        | go_skip
        | ((with_reducible refine isLoad ?_); first | refine ldA H ?_ (hT := rRat) | refine ld1A H ?_ (hT := by first | exact kStr | exact kBool))
        | ((with_reducible refine isStore ?_); refine stA H ?_ (hT := rRat); clear H; intro _ H)
        | ((with_reducible refine isBox ?_); refine bxA H ?_; clear H; intro _ _ H)
        | (go_at_call 59; refine (FT.out _ H.out.tb).mono ?_; rintro _ _ ⟨rfl, hB⟩; replace H := Lib.hid (H.out.go hB); clear hB)
        | (go_at_call 60; refine (txt_any _ _ w0 _ _ (by assumption) H).mono ?_; rintro _ _ ⟨rfl, hH⟩; replace H := Lib.hid hH; clear hH))
    go_ret
    first | exact ⟨rfl, H.out.drop⟩ | (trace_state; fail)
end Go.Proofs.YtaiokjhjakdhaaaGreatDoor

namespace Go.Proofs.YtaiokjhjakdhaaaGreatDoor
open Go.RowKit
set_option linter.unusedVariables false
set_option maxRecDepth 100000

theorem isdig_parts {l : List UInt8} (h : isdigits l = true) : 0 < l.length ∧ l.length ≤ 9 ∧ l.all digitB = true := by
  unfold isdigits at h
  simp only [Bool.and_eq_true, Bool.not_eq_true', decide_eq_true_eq] at h
  refine ⟨?_, h.1.2, h.2⟩
  cases l with
  | nil => simp at h
  | cons c l => simp
theorem num_cuts {l : List UInt8} (h : isNumL l = true) : isdigits (cutN l) = true ∧ isdigits (cutD l) = true := by
  unfold isNumL at h
  unfold cutN cutD
  split at h
  · rename_i e
    rw [if_pos e, if_pos e]
    exact ⟨h, by decide⟩
  · rename_i e
    rw [if_neg e, if_neg e]
    simpa using h
theorem head_digit {l : List UInt8} (h : isNumL l = true) : Lib.hasPrefix l [45] = false := by
  obtain ⟨h1, _⟩ := num_cuts h
  obtain ⟨h2, _, h4⟩ := isdig_parts h1
  unfold cutN at h2 h4
  cases l with
  | nil => rfl
  | cons c l =>
    have hc : digitB c = true := by
      split at h4
      · simp only [List.all_cons, Bool.and_eq_true] at h4; exact h4.1
      · rename_i e
        rw [if_neg e] at h2
        cases hk : (Lib.indexByte (c :: l) 47).toNat with
        | zero => rw [hk] at h2; simp at h2
        | succ k =>
          rw [hk, List.take_succ_cons] at h4
          simp only [List.all_cons, Bool.and_eq_true] at h4
          exact h4.1
    unfold Lib.hasPrefix
    simp only [List.isPrefixOf, Bool.and_true]
    rw [beq_eq_false_iff_ne]
    rintro rfl
    exact absurd hc (by decide)
/-- What nat.Read makes of u. -/
structure NrT (u : ByteArray) (r : Option Nat) : Prop where
  s : 0 < u.size ∧ u.size ≤ 9
  d : u.data.toList.all digitB = true
  r : natR u.data.toList = r
theorem NrT.of {u : ByteArray} {l : List UInt8} {r : Option Nat} (hu : u.data.toList = l) (h : isdigits l = true) (hr : natR l = r) : NrT u r := by
  obtain ⟨h1, h2, h3⟩ := isdig_parts h
  exact ⟨by rw [ba_size, hu]; exact ⟨h1, h2⟩, by rw [hu]; exact h3, by rw [hu]; exact hr⟩
theorem nr_any (u : ByteArray) (r : Option Nat) (w0 w : World) (m : Ents) (h : NrT u r) (H : Hid (Hp w0 w m)) : Calls Tryz.prog 95 #[.string u] w fun e w' => e = .returned (.tuple #[.string (r.elim ⟨#[]⟩ nS), .int .i64 (r.elim 15 (fun _ => 0))]) ∧ Hp w0 w' m := by
  have := natRead_any u w0 w m H h.s h.d
  rwa [h.r] at this
theorem natR_lt {l : List UInt8} {n : Nat} (hl : l.length ≤ 9) (h : natR l = some n) : n < 1000000000 := by
  unfold natR at h
  split at h
  · cases h
  · split at h
    · cases h
    · split at h
      · rename_i h3
        cases h
        exact valD_lt9 h3 hl
      · cases h
theorem nS_sz9 {n : Nat} (h : n < 1000000000) : (nS n).size ≤ 50000 := by
  rw [nS_size]
  exact Nat.le_trans (digs_len (k := 4) (Nat.lt_trans h (by decide))) (by decide)
def ratM (ru rd : Option Nat) : Option Rat :=
  match ru with
  | none => none
  | some n => match rd with
    | none => none
    | some d => if d = 0 then none else some (mkR false n d)
theorem ratM_n1 (rd : Option Nat) : ratM none rd = none := rfl
theorem ratM_n2 (n : Nat) : ratM (some n) none = none := rfl
theorem ratM_0 (n : Nat) : ratM (some n) (some 0) = none := rfl
theorem ratM_d (n d : Nat) (h : ¬ d = 0) : ratM (some n) (some d) = some (mkR false n d) := if_neg h
set_option maxHeartbeats 8000000 in
theorem ratRead_any (s : ByteArray) (w0 w : World) (m : Ents) (H : Hid (Hp w0 w m)) (hs : s.size ≤ 4096) (hN : isNumL s.data.toList = true) :
    Calls Tryz.prog 79 #[.string s] w fun e w' => ∃ c : Int, e = .returned (.tuple #[.agg #[.bool (sgO (ratR s)), .string (nuO (ratR s)), .string (deO (ratR s))], .int .i64 c]) ∧ (c = 0 ↔ (ratR s).isSome = true) ∧ Hp w0 w' m := by
  obtain ⟨d1, d2⟩ := num_cuts hN
  have hp := head_digit hN
  have hsl : s.size ≤ 19 := by
    obtain ⟨_, a2, _⟩ := isdig_parts d1
    obtain ⟨_, b2, _⟩ := isdig_parts d2
    unfold cutN at a2
    unfold cutD at b2
    rw [ba_size]
    split at a2
    · omega
    · rename_i e
      rw [if_neg e] at b2
      rw [List.length_take] at a2
      rw [List.length_drop] at b2
      omega
  have CP := Tryz.strings_CutPrefix s ⟨#[45]⟩
  rw [show (⟨#[45]⟩ : ByteArray).data.toList = [45] from rfl, hp, show Lib.trimPrefix s.data.toList [45] = s.data.toList by unfold Lib.trimPrefix; rw [hp]; rfl, show (⟨s.data.toList.toArray⟩ : ByteArray) = s by cases s; rfl] at CP
  obtain ⟨ru, hru⟩ : ∃ r, natR (cutN s.data.toList) = r := ⟨_, rfl⟩
  obtain ⟨rd, hrd⟩ : ∃ r, natR (cutD s.data.toList) = r := ⟨_, rfl⟩
  have hR : ratR s = ratM ru rd := by subst hru; subst hrd; rfl
  have LU : ∀ n, ru = some n → n < 1000000000 := fun n e => natR_lt (isdig_parts d1).2.1 (hru.trans e)
  have LD : ∀ n, rd = some n → n < 1000000000 := fun n e => natR_lt (isdig_parts d2).2.1 (hrd.trans e)
  -- the two ways to cut
  have CC : ∃ u v v2 : ByteArray, ∃ b : Bool, (b = true → v2 = v) ∧ (b = false → v2 = ⟨#[49]⟩) ∧ NrT u ru ∧ NrT v2 rd ∧ ∀ w : World, Calls Tryz.prog 64 #[.string s, .string ⟨#[47]⟩] w fun e w' => e = .returned (.tuple #[.string u, .string v, .bool b]) ∧ Below w.heap.size w w' := by
    by_cases hn : Lib.indexByte s.data.toList 47 = -1
    · refine ⟨s, ⟨#[]⟩, ⟨#[49]⟩, false, (fun h => by cases h), (fun _ => rfl), NrT.of (by unfold cutN; rw [if_pos hn]) d1 hru, NrT.of (by unfold cutD; rw [if_pos hn]) d2 hrd, fun w => (scut_none s w (Nat.le_trans hs (by decide)) hn).mono ?_⟩
      rintro _ _ ⟨rfl, rfl⟩
      exact ⟨rfl, Below.refl _ _⟩
    · obtain ⟨i, hi⟩ : ∃ i : Nat, Lib.indexByte s.data.toList 47 = i := by
        have := Lib.indexByte_ge s.data.toList 47
        exact ⟨(Lib.indexByte s.data.toList 47).toNat, by omega⟩
      have e1 : (s.extract 0 i).data.toList = s.data.toList.take i := by rw [ext_list]; simp
      have e2 : (s.extract (i + 1) s.size).data.toList = s.data.toList.drop (i + 1) := by
        rw [ext_list, List.take_of_length_le (by simp)]
      refine ⟨_, _, _, true, (fun _ => rfl), (fun h => by cases h), NrT.of (e1.trans (by unfold cutN; rw [if_neg hn, hi]; rfl)) d1 hru, NrT.of (e2.trans (by unfold cutD; rw [if_neg hn, hi]; rfl)) d2 hrd, fun w => (scut_some s _ _ w i (Nat.le_trans hs (by decide)) hi rfl rfl).mono ?_⟩
      rintro _ _ ⟨rfl, n, rfl⟩
      exact ⟨rfl, (⟨rfl, rfl, rfl, Nat.le_refl _, fun _ _ => rfl⟩ : Below w.heap.size w (w.drewN n))⟩
  obtain ⟨u, v, v2, b, hb1, hb2, hu, hv, hC⟩ := CC
  have CX := Lib.hid hC
  have CPX := Lib.hid CP
  have HLU := Lib.hid LU
  have HLD := Lib.hid LD
  have HR := Lib.hid hR
  clear hC CP LU LD hR hru hrd d1 d2 hp hN hs
  rw [HR.out]
  clear HR
  cases b
  · obtain rfl := hb2 rfl
    clear hb1 hb2
    cases ru with
    | none =>
      clear HLU HLD
      rw [ratM_n1]
      go_enter Tryz.func79, Tryz.ntmps79
      go_wp2_with (first
          | go_skip
          | ((with_reducible refine isAlloc ?_); refine alA H ?_; clear H; intro _ _ H)
          | ((with_reducible refine isStore ?_); refine stA H ?_ (hT := rRat); clear H; intro _ H)
          | (go_at_call 94; refine (CPX.out _).mono ?_; rintro _ _ ⟨rfl, rfl⟩)
          | (go_at_call 64; refine (CX.out _).mono ?_; rintro _ _ ⟨rfl, hB⟩; replace H := Lib.hid (H.out.go hB); clear hB)
          | (go_at_call 95; refine (nr_any _ _ w0 _ _ (by assumption) H).mono ?_; rintro _ _ ⟨rfl, hH⟩; replace H := Lib.hid hH; clear hH)
          | (go_at_call 96; refine (made_any false n d _ _ (nS_sz9 HN) (nS_sz9 HD) hd0 (Lib.hid rfl) H.out.tb).mono ?_; rintro _ _ ⟨rfl, hB⟩; replace H := Lib.hid (H.out.go hB); clear hB))
      refine bodyPost_ret (results_Hv H rfl rRat rfl (.head _) rfl rfl) rfl ?_
      exact ⟨_, rfl, by simp, H.out.drop⟩
    | some n =>
      have HN := HLU.out n rfl
      clear HLU
      cases rd with
      | none =>
        clear HLD
        rw [ratM_n2]
        go_enter Tryz.func79, Tryz.ntmps79
        go_wp2_with (first
            | go_skip
            | ((with_reducible refine isAlloc ?_); refine alA H ?_; clear H; intro _ _ H)
            | ((with_reducible refine isStore ?_); refine stA H ?_ (hT := rRat); clear H; intro _ H)
            | (go_at_call 94; refine (CPX.out _).mono ?_; rintro _ _ ⟨rfl, rfl⟩)
            | (go_at_call 64; refine (CX.out _).mono ?_; rintro _ _ ⟨rfl, hB⟩; replace H := Lib.hid (H.out.go hB); clear hB)
            | (go_at_call 95; refine (nr_any _ _ w0 _ _ (by assumption) H).mono ?_; rintro _ _ ⟨rfl, hH⟩; replace H := Lib.hid hH; clear hH)
            | (go_at_call 96; refine (made_any false n d _ _ (nS_sz9 HN) (nS_sz9 HD) hd0 (Lib.hid rfl) H.out.tb).mono ?_; rintro _ _ ⟨rfl, hB⟩; replace H := Lib.hid (H.out.go hB); clear hB))
        refine bodyPost_ret (results_Hv H rfl rRat rfl (.head _) rfl rfl) rfl ?_
        exact ⟨_, rfl, by simp, H.out.drop⟩
      | some d =>
        have HD := HLD.out d rfl
        clear HLD
        by_cases hd0 : d = 0
        · subst hd0
          rw [ratM_0]
          have hne : ((nS 0).toList == []) = true := str_eqL [] nS_0
          go_enter Tryz.func79, Tryz.ntmps79
          go_wp2_with (first
              | go_skip
              | ((with_reducible refine isAlloc ?_); refine alA H ?_; clear H; intro _ _ H)
              | ((with_reducible refine isStore ?_); refine stA H ?_ (hT := rRat); clear H; intro _ H)
              | (go_at_call 94; refine (CPX.out _).mono ?_; rintro _ _ ⟨rfl, rfl⟩)
              | (go_at_call 64; refine (CX.out _).mono ?_; rintro _ _ ⟨rfl, hB⟩; replace H := Lib.hid (H.out.go hB); clear hB)
              | (go_at_call 95; refine (nr_any _ _ w0 _ _ (by assumption) H).mono ?_; rintro _ _ ⟨rfl, hH⟩; replace H := Lib.hid hH; clear hH)
              | (go_at_call 96; refine (made_any false n d _ _ (nS_sz9 HN) (nS_sz9 HD) hd0 (Lib.hid rfl) H.out.tb).mono ?_; rintro _ _ ⟨rfl, hB⟩; replace H := Lib.hid (H.out.go hB); clear hB))
          refine bodyPost_ret (results_Hv H rfl rRat rfl (.head _) rfl rfl) rfl ?_
          exact ⟨_, rfl, by simp, H.out.drop⟩
        · rw [ratM_d n d hd0]
          replace hd0 : 0 < d := by omega
          have hne : ((nS d).toList == []) = false := str_neL [] (fun e => by have h1 := nS_pos hd0; rw [e] at h1; exact absurd h1 (by decide))
          go_enter Tryz.func79, Tryz.ntmps79
          go_wp2_with (first
              | go_skip
              | ((with_reducible refine isAlloc ?_); refine alA H ?_; clear H; intro _ _ H)
              | ((with_reducible refine isStore ?_); refine stA H ?_ (hT := rRat); clear H; intro _ H)
              | (go_at_call 94; refine (CPX.out _).mono ?_; rintro _ _ ⟨rfl, rfl⟩)
              | (go_at_call 64; refine (CX.out _).mono ?_; rintro _ _ ⟨rfl, hB⟩; replace H := Lib.hid (H.out.go hB); clear hB)
              | (go_at_call 95; refine (nr_any _ _ w0 _ _ (by assumption) H).mono ?_; rintro _ _ ⟨rfl, hH⟩; replace H := Lib.hid hH; clear hH)
              | (go_at_call 96; refine (made_any false n d _ _ (nS_sz9 HN) (nS_sz9 HD) hd0 (Lib.hid rfl) H.out.tb).mono ?_; rintro _ _ ⟨rfl, hB⟩; replace H := Lib.hid (H.out.go hB); clear hB))
          refine bodyPost_ret (results_Hv H rfl rRat rfl (.head _) rfl rfl) rfl ?_
          exact ⟨_, rfl, by simp, H.out.drop⟩
  · obtain rfl := hb1 rfl
    clear hb1 hb2
    cases ru with
    | none =>
      clear HLU HLD
      rw [ratM_n1]
      go_enter Tryz.func79, Tryz.ntmps79
      go_wp2_with (first
          | go_skip
          | ((with_reducible refine isAlloc ?_); refine alA H ?_; clear H; intro _ _ H)
          | ((with_reducible refine isStore ?_); refine stA H ?_ (hT := rRat); clear H; intro _ H)
          | (go_at_call 94; refine (CPX.out _).mono ?_; rintro _ _ ⟨rfl, rfl⟩)
          | (go_at_call 64; refine (CX.out _).mono ?_; rintro _ _ ⟨rfl, hB⟩; replace H := Lib.hid (H.out.go hB); clear hB)
          | (go_at_call 95; refine (nr_any _ _ w0 _ _ (by assumption) H).mono ?_; rintro _ _ ⟨rfl, hH⟩; replace H := Lib.hid hH; clear hH)
          | (go_at_call 96; refine (made_any false n d _ _ (nS_sz9 HN) (nS_sz9 HD) hd0 (Lib.hid rfl) H.out.tb).mono ?_; rintro _ _ ⟨rfl, hB⟩; replace H := Lib.hid (H.out.go hB); clear hB))
      refine bodyPost_ret (results_Hv H rfl rRat rfl (.head _) rfl rfl) rfl ?_
      exact ⟨_, rfl, by simp, H.out.drop⟩
    | some n =>
      have HN := HLU.out n rfl
      clear HLU
      cases rd with
      | none =>
        clear HLD
        rw [ratM_n2]
        go_enter Tryz.func79, Tryz.ntmps79
        go_wp2_with (first
            | go_skip
            | ((with_reducible refine isAlloc ?_); refine alA H ?_; clear H; intro _ _ H)
            | ((with_reducible refine isStore ?_); refine stA H ?_ (hT := rRat); clear H; intro _ H)
            | (go_at_call 94; refine (CPX.out _).mono ?_; rintro _ _ ⟨rfl, rfl⟩)
            | (go_at_call 64; refine (CX.out _).mono ?_; rintro _ _ ⟨rfl, hB⟩; replace H := Lib.hid (H.out.go hB); clear hB)
            | (go_at_call 95; refine (nr_any _ _ w0 _ _ (by assumption) H).mono ?_; rintro _ _ ⟨rfl, hH⟩; replace H := Lib.hid hH; clear hH)
            | (go_at_call 96; refine (made_any false n d _ _ (nS_sz9 HN) (nS_sz9 HD) hd0 (Lib.hid rfl) H.out.tb).mono ?_; rintro _ _ ⟨rfl, hB⟩; replace H := Lib.hid (H.out.go hB); clear hB))
        refine bodyPost_ret (results_Hv H rfl rRat rfl (.head _) rfl rfl) rfl ?_
        exact ⟨_, rfl, by simp, H.out.drop⟩
      | some d =>
        have HD := HLD.out d rfl
        clear HLD
        by_cases hd0 : d = 0
        · subst hd0
          rw [ratM_0]
          have hne : ((nS 0).toList == []) = true := str_eqL [] nS_0
          go_enter Tryz.func79, Tryz.ntmps79
          go_wp2_with (first
              | go_skip
              | ((with_reducible refine isAlloc ?_); refine alA H ?_; clear H; intro _ _ H)
              | ((with_reducible refine isStore ?_); refine stA H ?_ (hT := rRat); clear H; intro _ H)
              | (go_at_call 94; refine (CPX.out _).mono ?_; rintro _ _ ⟨rfl, rfl⟩)
              | (go_at_call 64; refine (CX.out _).mono ?_; rintro _ _ ⟨rfl, hB⟩; replace H := Lib.hid (H.out.go hB); clear hB)
              | (go_at_call 95; refine (nr_any _ _ w0 _ _ (by assumption) H).mono ?_; rintro _ _ ⟨rfl, hH⟩; replace H := Lib.hid hH; clear hH)
              | (go_at_call 96; refine (made_any false n d _ _ (nS_sz9 HN) (nS_sz9 HD) hd0 (Lib.hid rfl) H.out.tb).mono ?_; rintro _ _ ⟨rfl, hB⟩; replace H := Lib.hid (H.out.go hB); clear hB))
          refine bodyPost_ret (results_Hv H rfl rRat rfl (.head _) rfl rfl) rfl ?_
          exact ⟨_, rfl, by simp, H.out.drop⟩
        · rw [ratM_d n d hd0]
          replace hd0 : 0 < d := by omega
          have hne : ((nS d).toList == []) = false := str_neL [] (fun e => by have h1 := nS_pos hd0; rw [e] at h1; exact absurd h1 (by decide))
          go_enter Tryz.func79, Tryz.ntmps79
          go_wp2_with (first
              | go_skip
              | ((with_reducible refine isAlloc ?_); refine alA H ?_; clear H; intro _ _ H)
              | ((with_reducible refine isStore ?_); refine stA H ?_ (hT := rRat); clear H; intro _ H)
              | (go_at_call 94; refine (CPX.out _).mono ?_; rintro _ _ ⟨rfl, rfl⟩)
              | (go_at_call 64; refine (CX.out _).mono ?_; rintro _ _ ⟨rfl, hB⟩; replace H := Lib.hid (H.out.go hB); clear hB)
              | (go_at_call 95; refine (nr_any _ _ w0 _ _ (by assumption) H).mono ?_; rintro _ _ ⟨rfl, hH⟩; replace H := Lib.hid hH; clear hH)
              | (go_at_call 96; refine (made_any false n d _ _ (nS_sz9 HN) (nS_sz9 HD) hd0 (Lib.hid rfl) H.out.tb).mono ?_; rintro _ _ ⟨rfl, hB⟩; replace H := Lib.hid (H.out.go hB); clear hB))
          refine bodyPost_ret (results_Hv H rfl rRat rfl (.head _) rfl rfl) rfl ?_
          exact ⟨_, rfl, by simp, H.out.drop⟩
end Go.Proofs.YtaiokjhjakdhaaaGreatDoor

namespace Go.Proofs.YtaiokjhjakdhaaaGreatDoor
open Go.RowKit
set_option linter.unusedVariables false
set_option maxRecDepth 100000

theorem kStrs : ∃ d, Tryz.prog.underlying 51 = some d ∧ d.isRow = false := ⟨_, Tryz.underlying51, rfl⟩
theorem iStr : InfoT Tryz.prog 9 1 16 := InfoT.of (z := .string ⟨#[]⟩) (by kernel_rfl) (by kernel_rfl) rfl
def strV (x : ByteArray) : List Value := [.string x]
theorem strV_len (x : ByteArray) : (strV x).length = 1 := rfl
theorem strs_len (us : List ByteArray) : (flat strV us).length = us.length * 1 := by
  induction us with
  | nil => rfl
  | cons x us ih => rw [show flat strV (x :: us) = strV x ++ flat strV us from rfl, List.length_append, ih, strV_len, List.length_cons]; omega
theorem strs_one (us : List ByteArray) : (flat strV us).all (·.oneCell') = true := by
  induction us with
  | nil => rfl
  | cons x us ih => rw [show flat strV (x :: us) = strV x ++ flat strV us from rfl, List.all_append, ih]; rfl
set_option maxHeartbeats 4000000 in
theorem put_any (w0 w : World) (m : Ents) (bp bq : Nat) (v : Value) (n k : Nat) (ws us : List ByteArray) (cur : List Value) (H : Hid (Hp w0 w ((bp, 70, [v]) :: (rowE v 9 cur ++ m)))) (R : Hid (RowV 1 v n (flat strV ws) cur)) (HU : Hid ((bq, 9, flat strV us) ∈ m)) (hk : us.length = k) (h0 : 0 < k) (hb : n + k ≤ 100000) :
    Calls Tryz.prog 15 #[.pointer (some ⟨bp, 0, none⟩), .slice (some ⟨bq, 0, none⟩) k k] w fun e w' => ∃ v' cur', e = .returned (.tuple #[]) ∧ RowV 1 v' (n + k) (flat strV (ws ++ us)) cur' ∧ Hp w0 w' ((bp, 70, [v']) :: (rowE v' 9 cur' ++ m)) := by
  obtain ⟨B, c, rfl, _⟩ := R.out.shape
  have HL : Hid ((flat strV us).length = k * 1) := Lib.hid (hk ▸ strs_len us)
  clear hk
  go_enter Tryz.func15, Tryz.ntmps15
  go_wp2_with (first
      | go_skip
      | ((with_reducible refine isLoad ?_); refine ld1A H ?_ (hT := by first | exact kInt | exact kStl | exact kBll | exact kStr | exact kStrs))
      | ((with_reducible refine isStore ?_); refine st1A H ?_ (hT := by first | exact sStl | exact sStrs); clear H; intro _ H)
      | ((with_reducible refine isApp ?_); refine wpList_appH [(bp, 70, _)] m H R (by rfl) iStr (by decide) Tryz.underlying51 (by rfl) (by rfl) (by rfl) (by rfl) (.tail _ (List.mem_append_right _ HU.out)) HL.out (strs_one us) h0 (by simp only [maxLen]; omega) (by omega) ?_; clear H R; intro v3 cur3 _ R H; obtain ⟨B3, c3, rfl, _⟩ := R.out.shape))
  go_end0
  refine ⟨_, _, rfl, ?_, H.out⟩
  have := R.out
  rwa [← flat_append] at this
end Go.Proofs.YtaiokjhjakdhaaaGreatDoor

namespace Go.Proofs.YtaiokjhjakdhaaaGreatDoor
open Go.RowKit
set_option linter.unusedVariables false
set_option maxRecDepth 100000

/-- A digit as a text. -/
def dig1 (n : Nat) : ByteArray := ⟨#[(48 + n).toUInt8]⟩
set_option maxHeartbeats 4000000 in
theorem small10 (n : Nat) (w : World) (hn : n < 10) : Calls Tryz.prog 84 #[.int .i64 n] w fun e w' => e = .returned (.string (dig1 n)) ∧ w = w' := by
  have HS : Hid (∀ k : Fin 10, ByteArray.extract ⟨#[48, 49, 50, 51, 52, 53, 54, 55, 56, 57, 97, 98, 99, 100, 101, 102, 103, 104, 105, 106, 107, 108, 109, 110, 111, 112, 113, 114, 115, 116, 117, 118, 119, 120, 121, 122]⟩ k (k + 1) = dig1 k) := Lib.hid (by decide +kernel)
  have hd : decide ((n : Int) < 10) = true := decide_eq_true (by omega)
  go_enter Tryz.func84, Tryz.ntmps84
  go_wp2_with (first
      | go_skip)
  go_ret
  refine ⟨?_, rfl⟩
  have := HS.out ⟨n, hn⟩
  simp only at this
  rw [← this]
  rfl
set_option maxHeartbeats 4000000 in
theorem fmt10i (n : Nat) (w : World) (hn : n < 10) : Calls Tryz.prog 75 #[.int .i64 n, .int .i64 10] w fun e w' => e = .returned (.string (dig1 n)) ∧ w = w' := by
  have hd : decide ((0 : Int) ≤ n) = true := decide_eq_true (by omega)
  have hd2 : decide ((n : Int) < 100) = true := decide_eq_true (by omega)
  go_enter Tryz.func75, Tryz.ntmps75
  go_wp2_with (first
      | go_skip
      | (go_at_call 84; refine (small10 n _ hn).mono ?_; rintro _ _ ⟨rfl, rfl⟩))
  go_ret
  exact ⟨rfl, rfl⟩
set_option maxHeartbeats 4000000 in
theorem fmt10 (n : Nat) (w : World) (hn : n < 10) : Calls Tryz.prog 61 #[.int .i64 n, .int .i64 10] w fun e w' => e = .returned (.string (dig1 n)) ∧ w = w' := by
  go_enter Tryz.func61, Tryz.ntmps61
  go_wp2_with (first
      | go_skip
      | (go_at_call 75; refine (fmt10i n _ hn).mono ?_; rintro _ _ ⟨rfl, rfl⟩))
  go_ret
  exact ⟨rfl, rfl⟩
set_option maxHeartbeats 4000000 in
theorem num10 (n : Nat) (w : World) (hn : n < 10) : Calls Tryz.prog 42 #[.int .i64 n] w fun e w' => e = .returned (.string (dig1 n)) ∧ w = w' := by
  go_enter Tryz.func42, Tryz.ntmps42
  go_wp2_with (first
      | go_skip
      | (go_at_call 61; refine (fmt10 n _ hn).mono ?_; rintro _ _ ⟨rfl, rfl⟩))
  go_ret
  exact ⟨rfl, rfl⟩
end Go.Proofs.YtaiokjhjakdhaaaGreatDoor

namespace Go.Proofs.YtaiokjhjakdhaaaGreatDoor
open Go.RowKit
set_option linter.unusedVariables false
set_option maxRecDepth 100000

/-- The printer's statement s prints the words us. -/
def PrS (E : Ents) (d : Nat) (s : Stm) (us : List ByteArray) : Prop := ∀ (w0 w : World) (m : Ents) (bp : Nat) (v : Value) (n : Nat) (ws : List ByteArray) (cur : List Value) (sv : Sv), Hid (Hp w0 w ((bp, 70, [v]) :: (rowE v 9 cur ++ m))) → Hid (RowV 1 v n (flat strV ws) cur) → Hid (∀ x ∈ E, x ∈ m) → Hid (RSt E d s sv) → n + us.length ≤ 100000 →
  Calls Tryz.prog 28 #[.pointer (some ⟨bp, 0, none⟩), .agg sv.cells.toArray] w fun e w' => ∃ v' cur', e = .returned (.tuple #[]) ∧ RowV 1 v' (n + us.length) (flat strV (ws ++ us)) cur' ∧ Hp w0 w' ((bp, 70, [v']) :: (rowE v' 9 cur' ++ m))
theorem mid_out {a : Nat × TypeId × List Value} {R m : Ents} {b : Nat × TypeId × List Value} : ((a :: (R ++ m))).Sublist (a :: (R ++ (b :: m))) := List.Sublist.cons_cons _ (List.Sublist.append (List.Sublist.refl _) (List.Sublist.cons _ (List.Sublist.refl _)))
theorem mid_in {a b : Nat × TypeId × List Value} {R m : Ents} : (b :: a :: (R ++ m)).Perm (a :: (R ++ (b :: m))) := (List.Perm.swap _ _ _).trans (.cons _ List.perm_middle.symm)
theorem roll3 {a b g : Nat × TypeId × List Value} {R m : Ents} : (g :: b :: a :: (R ++ m)).Perm (a :: (R ++ (g :: b :: m))) :=
  ((List.Perm.swap a b _).cons g).trans ((List.Perm.swap a g _).trans (.cons _ ((List.perm_middle.symm.cons g).trans List.perm_middle.symm)))
theorem back3 {a b g : Nat × TypeId × List Value} {R m : Ents} {w0 w : World} (h : Hp w0 w (a :: (R ++ (g :: b :: m)))) : Hp w0 w (b :: a :: (R ++ m)) :=
  (h.sub (List.Sublist.cons_cons _ (List.Sublist.append (List.Sublist.refl _) (List.Sublist.cons _ (List.Sublist.refl _))))).perm mid_in.symm
set_option maxHeartbeats 4000000 in
theorem stmt_wait (E : Ents) (d : Nat) (s : Stm) (k : Nat) (hk : s.k = 5) (hn : s.n = k) (hk9 : k < 10) (hbl : s.bl = []) : PrS E d s [⟨#[119, 97, 105, 116]⟩, dig1 k, ⟨#[59]⟩] := by
  intro w0 w m bp v n ws cur sv H R HE RS hb
  simp only [List.length_cons, List.length_nil] at hb ⊢
  obtain ⟨vk, va, vb, vw, vn, Bb, cb, rfl, e1⟩ := RS.out.shape9
  obtain rfl : vk = 5 := e1.trans hk
  obtain rfl : vn = k := by
    cases d with
    | zero => exact RS.out.elim
    | succ d => exact RS.out.2.2.2.2.2.1.trans hn
  simp only [hbl, List.length_nil]
  obtain ⟨B, c, rfl, _⟩ := R.out.shape
  clear hk hn hbl e1 RS
  go_enter Tryz.func28, Tryz.ntmps28
  go_wp2_with (first
      | go_skip
      | ((with_reducible refine isLoad ?_); refine ldA H ?_ (hT := rStm8))
      | ((with_reducible refine isLoad ?_); refine ld1A H ?_ (hT := by first | exact kInt | exact kStl | exact kBll | exact kStr | exact kStrs))
      | ((with_reducible refine isStore ?_); refine st1A H ?_ (hT := by first | exact sStl | exact sStrs); clear H; intro _ H)
      | ((with_reducible refine isBox ?_); refine bxA H ?_; clear H; intro _ _ H)
      | ((with_reducible refine isSlc ?_); first | (refine bsA 9 [.string ⟨#[119, 97, 105, 116]⟩, .string (dig1 k)] 2 H ?_; clear H; intro gz _ H))
      | (go_at_call 42; refine (num10 k _ hk9).mono ?_; rintro _ _ ⟨rfl, rfl⟩))
  go_at_call 15
  have H' := Lib.hid (H.out.perm roll3)
  refine Calls.mono (put_any w0 _ _ bp gz _ _ 2 _ [⟨#[119, 97, 105, 116]⟩, dig1 k] _ H' R (Lib.hid (.head _)) rfl (by decide) (by omega)) ?_
  clear H H' R
  rintro _ _ ⟨v2, cur2, rfl, hR, h2⟩
  obtain ⟨B2, c2, rfl, _⟩ := hR.shape
  have R := Lib.hid hR
  have H := Lib.hid (back3 h2)
  clear hR h2
  go_wp2_with (first
      | go_skip
      | ((with_reducible refine isLoad ?_); refine ldA H ?_ (hT := rStm8))
      | ((with_reducible refine isLoad ?_); refine ld1A H ?_ (hT := by first | exact kInt | exact kStl | exact kBll | exact kStr | exact kStrs))
      | ((with_reducible refine isSlc ?_); first | (refine bsA 9 [.string ⟨#[59]⟩] 1 H ?_; clear H; intro gz _ H)))
  go_at_call 15
  have H' := Lib.hid (H.out.perm roll3)
  refine Calls.mono (put_any w0 _ _ bp gz _ _ 1 _ [⟨#[59]⟩] _ H' R (Lib.hid (.head _)) rfl (by decide) (by omega)) ?_
  clear H H' R
  rintro _ _ ⟨v2, cur2, rfl, hR, h2⟩
  obtain ⟨B2, c2, rfl, _⟩ := hR.shape
  have R := Lib.hid hR
  have H := Lib.hid (back3 h2)
  clear hR h2
  go_wp2_with (first
      | go_skip
      | ((with_reducible refine isLoad ?_); refine ldA H ?_ (hT := rStm8))
      | ((with_reducible refine isLoad ?_); refine ld1A H ?_ (hT := by first | exact kInt | exact kStl | exact kBll | exact kStr | exact kStrs)))
  go_loopw [90] (fun i_ wr => i_ = .int .i64 0 ∧ Hid (Hp w0 wr ((bp, 70, [(.slice B2 (n + 2 + 1) c2)]) :: (rowE (.slice B2 (n + 2 + 1) c2) 9 cur2 ++ m)))) (fun i_ _ => 0)
  case atStart => exact ⟨rfl, Lib.hid H.out.drop⟩
  case round =>
    clear H
    obtain ⟨rfl, H⟩ := hrel
    go_wp2_with (first
        | go_skip)
    go_end0
    refine ⟨_, _, rfl, ?_, H.out⟩
    have := R.out
    rw [List.append_assoc] at this
    exact this
end Go.Proofs.YtaiokjhjakdhaaaGreatDoor

namespace Go.Proofs.YtaiokjhjakdhaaaGreatDoor
open Go.RowKit
set_option linter.unusedVariables false
set_option maxRecDepth 100000

/-- What a list prints. -/
def blW (f : Stm → List ByteArray) (l : List Stm) : List ByteArray := [⟨#[123]⟩] ++ l.flatMap f ++ [⟨#[125]⟩]
set_option maxHeartbeats 4000000 in
theorem block_any (E : Ents) (d : Nat) (l : List Stm) (f : Stm → List ByteArray) (hS : ∀ (j : Nat) (s : Stm), l[j]? = some s → PrS E d s (f s)) (w0 w : World) (m : Ents) (bp : Nat) (v x : Value) (n : Nat) (ws : List ByteArray) (cur : List Value) (H : Hid (Hp w0 w ((bp, 70, [v]) :: (rowE v 9 cur ++ m)))) (R : Hid (RowV 1 v n (flat strV ws) cur)) (HE : Hid (∀ x ∈ E, x ∈ m)) (RS : Hid (RSs E d l x)) (hb : n + (blW f l).length ≤ 100000) :
    Calls Tryz.prog 16 #[.pointer (some ⟨bp, 0, none⟩), x] w fun e w' => ∃ v' cur', e = .returned (.tuple #[]) ∧ RowV 1 v' (n + (blW f l).length) (flat strV (ws ++ blW f l)) cur' ∧ Hp w0 w' ((bp, 70, [v']) :: (rowE v' 9 cur' ++ m)) := by
  have HSS := Lib.hid hS
  clear hS
  obtain ⟨lvs, hR1, hR2⟩ := RS.out
  have RL := Lib.hid hR1
  have RA := Lib.hid hR2
  obtain ⟨nl, hnl⟩ : ∃ n, lvs.length = n := ⟨_, rfl⟩
  rw [hnl] at RL
  replace RL := Lib.hid RL
  have hle := RL.out.le
  have HLL : Hid (l.length = nl) := Lib.hid (hR2.1.trans hnl)
  obtain ⟨nf, hnf⟩ : ∃ nf, (l.flatMap f).length = nf := ⟨_, rfl⟩
  have e0 : (blW f l).length = nf + 2 := by unfold blW; rw [List.length_append, List.length_append, hnf]; simp; omega
  rw [e0] at hb ⊢
  have HNF := Lib.hid hnf
  clear hR1 hR2 hnl RS e0 hnf
  obtain ⟨B, c, rfl, _⟩ := RL.out.shape
  obtain ⟨B0, c0, rfl, _⟩ := R.out.shape
  go_enter Tryz.func16, Tryz.ntmps16
  go_wp2_with (first
      | go_skip
      | ((with_reducible refine isLoad ?_); refine ld1A H ?_ (hT := by first | exact kInt | exact kStl | exact kBll | exact kStr | exact kStrs))
      | ((with_reducible refine isSlc ?_); first | (refine bsA 9 [.string ⟨#[123]⟩] 1 H ?_; clear H; intro gz _ H)))
  go_at_call 15
  have H' := Lib.hid (H.out.perm mid_in)
  refine Calls.mono (put_any w0 _ _ bp gz _ _ 1 _ [⟨#[123]⟩] _ H' R (Lib.hid (.head _)) rfl (by decide) (by omega)) ?_
  clear H H' R
  rintro _ _ ⟨v2, cur2, rfl, hR, h2⟩
  obtain ⟨B2, c2, rfl, _⟩ := hR.shape
  have R := Lib.hid hR
  have H := Lib.hid (h2.sub mid_out)
  clear hR h2
  go_wp2_with (first
      | go_skip
      | ((with_reducible refine isLoad ?_); refine ld1A H ?_ (hT := by first | exact kInt | exact kStl | exact kBll | exact kStr | exact kStrs)))
  go_loopw [11] (fun i_ wr => ∃ (j k : Nat) (v2 : Value) (cur2 : List Value), i_ = .int .i64 j ∧ j ≤ nl ∧ Hid (((l.take j).flatMap f).length = k) ∧ Hid (RowV 1 v2 (n + 1 + k) (flat strV ((ws ++ [⟨#[123]⟩]) ++ (l.take j).flatMap f)) cur2) ∧ Hid (Hp w0 wr ((bp, 70, [v2]) :: (rowE v2 9 cur2 ++ m)))) (fun i_ _ => nl - (intOf i_).toNat)
  case atStart => exact ⟨0, 0, _, _, rfl, by omega, Lib.hid rfl, by simpa using R, H⟩
  case round =>
    clear H R
    obtain ⟨j, k, v2, cur2, rfl, hj, HK, R, H⟩ := hrel
    by_cases hlt : j < nl
    · obtain ⟨s, hs⟩ : ∃ s, l[j]? = some s := ⟨_, List.getElem?_eq_getElem (by rw [HLL.out]; exact hlt)⟩
      obtain ⟨sv, hsv, hRS⟩ := RA.out.at_ hs
      obtain ⟨g, c', e1, hr⟩ := RL.out.at_ Sv.len hsv (by decide)
      injection e1 with e1 _ e3
      subst e1
      have X := Lib.hid (hr _ (H.out.hld (fun x hx => .tail _ (List.mem_append_right _ (HE.out x hx)))))
      obtain ⟨vk, va, vb, vw, vn, Bb, cb, rfl, -⟩ := hRS.shape9
      obtain ⟨nb, hnb⟩ : ∃ nb, s.bl.length = nb := ⟨_, rfl⟩
      simp only [hnb] at X hRS
      have HRS := Lib.hid hRS
      have HT : Hid ((l.take (j + 1)).flatMap f = (l.take j).flatMap f ++ f s) := Lib.hid (flatMap_take hs)
      have hk2 : k + (f s).length ≤ nf := by
        have h1 := flatMap_take_le f l (j + 1)
        rw [HT.out, List.length_append, HK.out, HNF.out] at h1
        exact h1
      have HP := Lib.hid (HSS.out j s hs)
      clear hs hsv hr e3 hRS hnb
      go_wp2_with (first
          | go_skip
          | ((with_reducible refine isLoad ?_); refine ldX (cs := [.int .i64 vk, .string va, .string vb, .bool (sgO vw), .string (nuO vw), .string (deO vw), .int .i64 vn, .slice Bb nb cb]) X ?_ (hT := rStm8))
          | ((with_reducible refine isLoad ?_); refine ldA H ?_ (hT := rStm8))
          | ((with_reducible refine isStore ?_); refine stA H ?_ (hT := rStm8); clear H; intro _ H)
          | ((with_reducible refine isAlloc ?_); refine alA H ?_ (hz := zStm8); clear H; intro q _ H))
      go_at_call 28
      have H' := Lib.hid (H.out.perm mid_in)
      have hcall := HP.out w0 _ _ bp v2 _ _ cur2 _ H' R (Lib.hid (fun x hx => .tail _ (HE.out x hx))) HRS (by omega)
      clear H H' R HP HRS
      simp only [Sv.cells] at hcall
      refine Calls.mono hcall ?_
      clear hcall
      rintro _ _ ⟨v3, cur3, rfl, hR, h2⟩
      have R := Lib.hid hR
      have H := Lib.hid (h2.sub mid_out)
      clear hR h2
      go_wp2_with (first
          | go_skip)
      go_roundw
      case rel => first | exact ⟨j + 1, k + (f s).length, v3, cur3, rfl, by omega, Lib.hid (by rw [HT.out, List.length_append, HK.out]), by rw [HT.out, ← List.append_assoc, ← Nat.add_assoc]; exact R, H⟩ | exact ⟨_, _, _, _, _, _, _, ⟨j + 1, k + (f s).length, v3, cur3, rfl, by omega, Lib.hid (by rw [HT.out, List.length_append, HK.out]), by rw [HT.out, ← List.append_assoc, ← Nat.add_assoc]; exact R, H⟩, rfl, rfl⟩ | (trace_state; fail)
      case measure => simp [intOf]; omega
    · obtain rfl : j = nl := by omega
      rw [List.take_of_length_le (by rw [HLL.out]; exact Nat.le_refl _)] at HK R
      obtain rfl : k = nf := HK.out.symm.trans HNF.out
      obtain ⟨B3, c3, rfl, _⟩ := R.out.shape
      go_wp2_with (first
          | go_skip
          | ((with_reducible refine isSlc ?_); first | (refine bsA 9 [.string ⟨#[125]⟩] 1 H ?_; clear H; intro gz _ H)))
      go_at_call 15
      have H' := Lib.hid (H.out.perm mid_in)
      refine Calls.mono (put_any w0 _ _ bp gz _ _ 1 _ [⟨#[125]⟩] _ H' R (Lib.hid (.head _)) rfl (by decide) (by omega)) ?_
      clear H H' R
      rintro _ _ ⟨v2, cur2, rfl, hR, h2⟩
      obtain ⟨B2, c2, rfl, _⟩ := hR.shape
      have R := Lib.hid hR
      have H := Lib.hid (h2.sub mid_out)
      clear hR h2
      go_wp2_with (first
          | go_skip)
      go_end0
      refine ⟨_, _, rfl, ?_, H.out⟩
      have := R.out
      rw [show n + (k + 2) = n + 1 + k + 1 by omega]
      rw [show ws ++ [⟨#[123]⟩] ++ l.flatMap f ++ [⟨#[125]⟩] = ws ++ blW f l by unfold blW; simp] at this
      exact this
end Go.Proofs.YtaiokjhjakdhaaaGreatDoor

namespace Go.Proofs.YtaiokjhjakdhaaaGreatDoor
open Go.RowKit
set_option linter.unusedVariables false
set_option maxRecDepth 100000

theorem strs_at {us : List ByteArray} {j : Nat} {x : ByteArray} (h : us[j]? = some x) : (flat strV us)[j]? = some (.string x) := by
  induction us generalizing j with
  | nil => simp at h
  | cons y us ih =>
    cases j with
    | zero => simp at h; subst h; rfl
    | succ j => exact ih (by simpa using h)
theorem RowV.cells_ {v : Value} {n : Nat} {ws : List ByteArray} {cur : List Value} {w0 w : World} {X m : Ents} (R : RowV 1 v n (flat strV ws) cur) (H : Hp w0 w (X ++ (rowE v 9 cur ++ m))) (h0 : 0 < n) : ∃ g c, v = .slice (some ⟨g, 0, none⟩) n c ∧ g < w.heap.size ∧ n ≤ c ∧ ws.length = n ∧ ∀ (j : Nat) x, ws[j]? = some x → w.cell? ⟨g, 0 + j, none⟩ = some (.string x) := by
  have hl := R.len
  rw [strs_len, Nat.mul_one, Nat.mul_one] at hl
  rcases R.or_ with ⟨_, e⟩ | ⟨g, cap, rfl, h1, h2, h3, h4⟩
  · omega
  · have hb := (H.blk (g, 9, cur) (by simp [rowE])).2
    refine ⟨g, cap, rfl, hb.lt, h1, hl, fun j x hj => ?_⟩
    rw [Nat.zero_add, hb.cell]
    have := strs_at hj
    rw [← h4, List.getElem?_take] at this
    split at this
    · simpa using this
    · cases this
set_option maxHeartbeats 4000000 in
theorem Print_ok (E : Ents) (d : Nat) (l : List Stm) (f : Stm → List ByteArray) (nm js : ByteArray) (hS : ∀ (j : Nat) (s : Stm), l[j]? = some s → PrS E d s (f s)) (w0 w : World) (m : Ents) (x : Value) (H : Hid (Hp w0 w m)) (HE : Hid (∀ x ∈ E, x ∈ m)) (RS : Hid (RSs E d l x)) (hn : nm.size ≤ maxLen) (hc : Hid (checkE d nm l = 0)) (hb : 2 + (blW f l).length ≤ 100000)
    (J : Hid (js = ⟨(Lib.join ((⟨#[106, 111, 98]⟩ :: nm :: blW f l).map (·.data.toList)) [32]).toArray⟩)) (hl : (Lib.join ((⟨#[106, 111, 98]⟩ :: nm :: blW f l).map (·.data.toList)) [32]).length ≤ 4096) :
    Calls Tryz.prog 7 #[.agg #[.string nm, x]] w fun e w' => e = .returned (.tuple #[.string js, .int .i64 0]) ∧ Hp w0 w' m := by
  have hjs : Hid ((js.size : Int) ≤ 4096) := Lib.hid (by rw [J.out]; show ((List.toArray _).size : Int) ≤ 4096; rw [List.size_toArray]; omega)
  have hjd : Hid (decide ((4096 : Int) < js.size) = false) := Lib.hid (decide_eq_false (by have := hjs.out; omega))
  have HL := Lib.hid hl
  have HSS := Lib.hid hS
  clear hl hS hjs
  obtain ⟨B, c, rfl⟩ := RS.out.shape
  go_enter Tryz.func7, Tryz.ntmps7
  go_wp2_with (first
      | go_skip
      | ((with_reducible refine isLoad ?_); refine ldA H ?_ (hT := rJob))
      | ((with_reducible refine isLoad ?_); refine ld1A H ?_ (hT := by first | exact kInt | exact kStl | exact kBll | exact kStr | exact kStrs))
      | ((with_reducible refine isBox ?_); first | (refine bxA (t := 25) H ?_; clear H; intro qj _ H) | (refine bxA (t := 70) H ?_; clear H; intro bp _ H))
      | ((with_reducible refine isSlc ?_); first | (refine bsA 9 [.string ⟨#[106, 111, 98]⟩, .string nm] 2 H ?_; clear H; intro gz _ H)))
  go_at_call 14
  refine Calls.mono (Check_any d E nm l _ _ hn RS (Lib.hid (H.out.hld (fun x hx => .tail _ (HE.out x hx)))) H.out.tb) ?_
  rintro _ _ ⟨rfl, hB⟩
  replace H := Lib.hid (H.out.go hB)
  rw [hc.out]
  clear hB
  go_wp2_with (first
      | go_skip
      | ((with_reducible refine isLoad ?_); refine ldA H ?_ (hT := rJob))
      | ((with_reducible refine isLoad ?_); refine ld1A H ?_ (hT := by first | exact kInt | exact kStl | exact kBll | exact kStr | exact kStrs))
      | ((with_reducible refine isBox ?_); first | (refine bxA (t := 25) H ?_; clear H; intro qj _ H) | (refine bxA (t := 70) H ?_; clear H; intro bp _ H))
      | ((with_reducible refine isSlc ?_); first | (refine bsA 9 [.string ⟨#[106, 111, 98]⟩, .string nm] 2 H ?_; clear H; intro gz _ H)))
  go_at_call 15
  have H' := Lib.hid (H.out.perm (List.Perm.swap _ _ _))
  have hcall := put_any w0 _ _ bp gz (.slice none 0 0) 0 2 [] [⟨#[106, 111, 98]⟩, nm] [] H' (Lib.hid (RowV.nil 1)) (Lib.hid (.head _)) rfl (by decide) (by omega)
  clear H H'
  refine Calls.mono hcall ?_
  clear hcall
  rintro _ _ ⟨v2, cur2, rfl, hR, h2⟩
  obtain ⟨B2, c2, rfl, _⟩ := hR.shape
  have R := Lib.hid hR
  have H := Lib.hid (h2.perm roll3.symm)
  clear hR h2
  go_wp2_with (first
      | go_skip
      | ((with_reducible refine isLoad ?_); refine ld1A H ?_ (hT := by first | exact kInt | exact kStl | exact kBll | exact kStr | exact kStrs)))
  go_at_call 16
  have H' := Lib.hid (H.out.perm roll3)
  clear H
  have hcall := block_any E d l f HSS.out w0 _ _ bp _ _ _ _ cur2 H' R (Lib.hid (fun x hx => .tail _ (.tail _ (HE.out x hx)))) RS (by omega)
  clear H' R HSS
  refine Calls.mono hcall ?_
  clear hcall
  rintro _ _ ⟨v2, cur2, rfl, hR, h2⟩
  obtain ⟨g, c3, rfl, hg, hc3, hln, hcell⟩ := hR.cells_ (X := [(bp, 70, [v2])]) h2 (by omega)
  have H := Lib.hid h2
  have HC := Lib.hid hcell
  have HLN := Lib.hid hln
  clear hR h2 hcell hln
  go_wp2_with (first
      | go_skip
      | ((with_reducible refine isLoad ?_); refine ld1A H ?_ (hT := by first | exact kInt | exact kStl | exact kBll | exact kStr | exact kStrs)))
  go_at_call 17
  have hcall := Tryz.strings_Join g 0 c3 (⟨#[106, 111, 98]⟩ :: nm :: blW f l) ⟨#[32]⟩ _ HC.out hg (by rw [show (⟨#[106, 111, 98]⟩ :: nm :: blW f l).length = _ from HLN.out]; omega) (by rw [show (⟨#[106, 111, 98]⟩ :: nm :: blW f l).length = _ from HLN.out]; exact hc3) (by have := HL.out; simp only at this ⊢; omega)
  rw [show (⟨#[106, 111, 98]⟩ :: nm :: blW f l).length = _ from HLN.out] at hcall
  refine Calls.mono hcall ?_
  clear hcall
  rintro _ _ ⟨rfl, hB⟩
  replace H := Lib.hid (H.out.go hB)
  rw [show (⟨(Lib.join ((⟨#[106, 111, 98]⟩ :: nm :: blW f l).map (·.data.toList)) [32]).toArray⟩ : ByteArray) = js from J.out.symm]
  clear hB
  replace hjd := hjd.out
  go_wp2_with (first
      | go_skip
      | ((with_reducible refine isLoad ?_); refine ld1A H ?_ (hT := by first | exact kInt | exact kStl | exact kBll | exact kStr | exact kStrs)))
  go_ret2
  exact ⟨rfl, H.out.sub (by (repeat (first | exact List.Sublist.refl _ | refine List.Sublist.cons_cons _ ?_ | refine List.Sublist.trans ?_ (List.sublist_append_right _ _) | refine List.Sublist.cons _ ?_)))⟩
end Go.Proofs.YtaiokjhjakdhaaaGreatDoor

namespace Go.Proofs.YtaiokjhjakdhaaaGreatDoor
open Go.RowKit
set_option linter.unusedVariables false
set_option maxRecDepth 100000

/-- wait 3 -/
def w3 : Stm := .mk 5 ⟨#[]⟩ ⟨#[]⟩ none 3 []
def w3c : List Value := [.int .i64 5, .string ⟨#[]⟩, .string ⟨#[]⟩, .bool false, .string ⟨#[]⟩, .string ⟨#[]⟩, .int .i64 3, .slice none 0 0]
theorem w3_ok : checkE 1 ⟨#[120]⟩ [w3] = 0 := by decide +kernel
theorem w3_rs (g : Nat) : RSs [(g, 86, w3c)] 1 [w3] (.slice (some ⟨g, 0, none⟩) 1 1) := by
  exact ⟨[⟨5, ⟨#[]⟩, ⟨#[]⟩, none, 3, .slice none 0 0⟩], RowIn.lit rfl (by unfold maxLen; omega), All2.cons ((RSt.leaf 0 ⟨small_i (x := 5) (by omega), small_i (x := 3) (by omega), empty_sz, empty_sz, SmO.none⟩).mono (by simp)) All2.nil⟩
def js3 : ByteArray := ⟨#[106, 111, 98, 32, 120, 32, 123, 32, 119, 97, 105, 116, 32, 51, 32, 59, 32, 125]⟩
theorem js3_ok : js3 = ⟨(Lib.join ((⟨#[106, 111, 98]⟩ :: ⟨#[120]⟩ :: blW (fun _ => [⟨#[119, 97, 105, 116]⟩, dig1 3, ⟨#[59]⟩]) [w3]).map (·.data.toList)) [32]).toArray⟩ := by rfl
theorem js3_le : (Lib.join ((⟨#[106, 111, 98]⟩ :: ⟨#[120]⟩ :: blW (fun _ => [⟨#[119, 97, 105, 116]⟩, dig1 3, ⟨#[59]⟩]) [w3]).map (·.data.toList)) [32]).length ≤ 4096 := by decide +kernel
set_option maxHeartbeats 4000000 in
theorem parsed_any (w0 w : World) (m : Ents) (H : Hid (Hp w0 w m)) : Calls Tryz.prog 9 #[] w fun e w' => e = .returned (.bool true) ∧ Hp w0 w' m := by
  go_enter Tryz.func9, Tryz.ntmps9
  go_wp2_with (first
      | go_skip
      | ((with_reducible refine isSlc ?_); refine bsA 86 w3c 1 H ?_; clear H; intro gz _ H))
  go_at_call 7
  have hcall := Print_ok [(gz, 86, w3c)] 1 [w3] (fun _ => [⟨#[119, 97, 105, 116]⟩, dig1 3, ⟨#[59]⟩]) ⟨#[120]⟩ js3 (fun j s hj => by
    cases j with
    | zero => cases hj; exact stmt_wait _ _ _ 3 rfl rfl (by decide) rfl
    | succ j => simp at hj) w0 _ _ _ H (Lib.hid (by simp)) (Lib.hid (w3_rs gz)) (by decide +kernel) (Lib.hid w3_ok) (by decide) (Lib.hid js3_ok) js3_le
  clear H
  refine Calls.mono hcall ?_
  clear hcall
  rintro _ _ ⟨rfl, h2⟩
  have H := Lib.hid h2.drop
  clear h2
  unfold js3
  go_wp2_with (first
      | go_skip)
  go_ret
  exact ⟨rfl, H.out⟩
end Go.Proofs.YtaiokjhjakdhaaaGreatDoor
