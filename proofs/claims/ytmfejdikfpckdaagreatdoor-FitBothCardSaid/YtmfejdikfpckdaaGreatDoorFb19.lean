/- gantmake.Rat. Printed by gen/seep.py. · gantmake.Vec. Printed by gen/seep.py. · gantmake.poly. Printed by gen/seep.py. · gantmake.Poly. Printed by gen/seep.py. -/
import Derived.Test.YtmfejdikfpckdaaGreatDoorFb18
import Derived.Test.YtmfejdikfpckdaaGreatDoorFb17
namespace Go.Proofs.YtmfejdikfpckdaaGreatDoor
open Go.RowKit
set_option linter.unusedVariables false
set_option maxRecDepth 100000

end Go.Proofs.YtmfejdikfpckdaaGreatDoor

namespace Go.Proofs.YtmfejdikfpckdaaGreatDoor
open Go.RowKit
set_option linter.unusedVariables false
set_option maxRecDepth 100000

end Go.Proofs.YtmfejdikfpckdaaGreatDoor

namespace Go.Proofs.YtmfejdikfpckdaaGreatDoor
open Go.RowKit
set_option linter.unusedVariables false
set_option maxRecDepth 100000

theorem Upd.mem2 {l l' : Ents} {b : Nat} {T : TypeId} {cs ds : List Value} (h : Upd l b T cs ds l') : (b, T, ds) ∈ l' := by
  induction h with
  | head => exact .head _
  | tail _ ih => exact .tail _ ih
/-- The corners of gantmake.Poly. -/
def polyC (a h k x : Int) : List (Rat × Rat) :=
  if k = 0 then [(ofQ (-a) 4, ofQ (-h) 4), (ofQ a 4, ofQ (-h) 4), (ofQ a 4, ofQ h 4), (ofQ (-a) 4, ofQ h 4)] else if k = 1 then [(ofQ (-a) 4, ofQ (-h) 4), (ofQ a 4, ofQ (-h) 4), (ofQ (x - a) 4, ofQ h 4)] else if k = 2 then [(ofQ (-a - 1) 4, ofQ (-h - 1) 4), (ofQ a 4, ofQ (-h - 1) 4), (ofQ (a + 1) 4, ofQ (-h) 4), (ofQ (a + 1) 4, ofQ h 4), (ofQ (-a - 1) 4, ofQ h 4)] else [(ofQ (-a) 4, ofQ 0 4), (ofQ 0 4, ofQ (-h) 4), (ofQ a 4, ofQ 0 4), (ofQ 0 4, ofQ h 4)]
def polyL (S : Sd) : List (Rat × Rat) := polyC (1 + S.nx 6) (1 + S.sn.nx 6) (S.s2.nx 4) (S.s2.sn.nx (2 * (1 + S.nx 6) + 1))
theorem polyL_at (S : Sd) {a h : Int} (ha : 1 + S.nx 6 = a) (hh : 1 + S.sn.nx 6 = h) : (S.s2.nx 4 = 0 → polyL S = [(ofQ (-a) 4, ofQ (-h) 4), (ofQ a 4, ofQ (-h) 4), (ofQ a 4, ofQ h 4), (ofQ (-a) 4, ofQ h 4)]) ∧ (S.s2.nx 4 = 1 → polyL S = [(ofQ (-a) 4, ofQ (-h) 4), (ofQ a 4, ofQ (-h) 4), (ofQ (S.s2.sn.nx (2 * a + 1) - a) 4, ofQ h 4)]) ∧ (S.s2.nx 4 = 2 → polyL S = [(ofQ (-a - 1) 4, ofQ (-h - 1) 4), (ofQ a 4, ofQ (-h - 1) 4), (ofQ (a + 1) 4, ofQ (-h) 4), (ofQ (a + 1) 4, ofQ h 4), (ofQ (-a - 1) 4, ofQ h 4)]) ∧ (S.s2.nx 4 = 3 → polyL S = [(ofQ (-a) 4, ofQ 0 4), (ofQ 0 4, ofQ (-h) 4), (ofQ a 4, ofQ 0 4), (ofQ 0 4, ofQ h 4)]) := by
  unfold polyL polyC
  rw [ha, hh]
  refine ⟨fun e => ?_, fun e => ?_, fun e => ?_, fun e => ?_⟩ <;> rw [e] <;> rfl
theorem polyC_ok (a h k x : Int) (ha : 1 ≤ a ∧ a ≤ 6) (hh : 1 ≤ h ∧ h ≤ 6) (hx : 0 ≤ x ∧ x ≤ 12) : ∃ v0 vs, polyC a h k x = v0 :: vs ∧ vs.length < 10 ∧ ∀ v ∈ v0 :: vs, Sz 1 v.1 ∧ Sz 1 v.2 := by
  have key : ∀ z : Int, -20 ≤ z → z ≤ 20 → Sz 1 (ofQ z 4) := fun z h1 h2 => ofQ_sz _ _ _ (by omega) (by decide) (by decide)
  unfold polyC
  repeat' split
  all_goals
    refine ⟨_, _, rfl, by simp, ?_⟩
    simp only [List.mem_cons, List.not_mem_nil, or_false, forall_eq_or_imp, forall_eq]
    repeat' apply And.intro
  all_goals exact key _ (by omega) (by omega)
theorem polyL_ok (S : Sd) : ∃ v0 vs, polyL S = v0 :: vs ∧ vs.length < 10 ∧ ∀ v ∈ v0 :: vs, Sz 1 v.1 ∧ Sz 1 v.2 := by
  have n1 := S.nx_bd 6 (by decide)
  have n2 := S.sn.nx_bd 6 (by decide)
  have n3 := S.s2.sn.nx_bd (2 * (1 + S.nx 6) + 1) (by omega)
  exact polyC_ok _ _ _ _ (by omega) (by omega) (by omega)
set_option maxHeartbeats 8000000 in
theorem poly_any {w0 w : World} {m : Ents} (S : Sd) (g : Nat) (H : Hid (Hp w0 w m)) (hS : Hid (S.ok w0)) (hm : (g, 93, [S.v]) ∈ m) :
    Calls Tryz.prog 50 #[.pointer (some ⟨g, 0, none⟩)] w fun e w' => ∃ b m', e = .returned (.slice (some ⟨b, 0, none⟩) (polyL S).length (polyL S).length) ∧ Hp w0 w' ((b, 44, vecC (polyL S)) :: m') := by
  obtain ⟨m1, hm1⟩ := upd_of_mem [S.sn.v] hm
  obtain ⟨m2, hm2⟩ := upd_of_mem [S.s2.v] hm1.mem2
  obtain ⟨m3, hm3⟩ := upd_of_mem [S.s2.sn.v] hm2.mem2
  have U1 := Lib.hid hm1
  have U2 := Lib.hid hm2
  have U3 := Lib.hid hm3
  have HS1 := Lib.hid hS.out.next
  have HS2 := Lib.hid hS.out.s2
  have HS3 := Lib.hid hS.out.s2.next
  have n1 := S.nx_bd 6 (by decide)
  have n2 := S.sn.nx_bd 6 (by decide)
  have n3 := S.s2.nx_bd 4 (by decide)
  obtain ⟨a, ha⟩ : ∃ a : Int, 1 + S.nx 6 = a := ⟨_, rfl⟩
  obtain ⟨h, hh⟩ : ∃ h : Int, 1 + S.sn.nx 6 = h := ⟨_, rfl⟩
  have a1 : 1 ≤ a ∧ a ≤ 6 := by omega
  have h1 : 1 ≤ h ∧ h ≤ 6 := by omega
  obtain ⟨a1l, a1r⟩ := a1
  obtain ⟨h1l, h1r⟩ := h1
  have wa : IntKind.i64.wrap (1 + S.nx 6) = a := by rw [ha]; exact IntWalk.i64_in _ (by omega)
  have wh : IntKind.i64.wrap (1 + S.sn.nx 6) = h := by rw [hh]; exact IntWalk.i64_in _ (by omega)
  have wna : IntKind.i64.wrap (-a) = -a := IntWalk.i64_in _ (by omega)
  have wnh : IntKind.i64.wrap (-h) = -h := IntWalk.i64_in _ (by omega)
  have L0 := polyL_at S ha hh
  clear hm hm1 hm2 hm3 n1 n2 ha hh
  by_cases c0 : S.s2.nx 4 = 0
  · have L1 := L0.1 c0
    clear L0
    obtain ⟨an, Ean⟩ : ∃ z : Rat, Hid (ofQ (-a) 4 = z) := ⟨_, rfl⟩
    obtain ⟨hn, Ehn⟩ : ∃ z : Rat, Hid (ofQ (-h) 4 = z) := ⟨_, rfl⟩
    obtain ⟨ap, Eap⟩ : ∃ z : Rat, Hid (ofQ a 4 = z) := ⟨_, rfl⟩
    obtain ⟨hp, Ehp⟩ : ∃ z : Rat, Hid (ofQ h 4 = z) := ⟨_, rfl⟩
    rw [Ean.out, Ehn.out, Eap.out, Ehp.out] at L1
    rw [L1]
    clear L1
    go_enter Tryz.func50, Tryz.ntmps50
    go_wp2_with (first
        | go_skip)
    refine (nextH_any S g 6 H hS U1 (by decide) (by decide)).mono ?_
    rintro _ _ ⟨rfl, H2⟩
    replace H := Lib.hid H2
    clear H2
    go_wp2_with (first
        | go_skip)
    refine (nextH_any S.sn g 6 H HS1 U2 (by decide) (by decide)).mono ?_
    rintro _ _ ⟨rfl, H2⟩
    replace H := Lib.hid H2
    clear H2
    go_wp2_with (first
        | go_skip)
    refine (nextH_any S.s2 g 4 H HS2 U3 (by decide) (by decide)).mono ?_
    rintro _ _ ⟨rfl, H2⟩
    replace H := Lib.hid H2
    clear H2
    go_wp2_with (first
        | go_skip)
    refine (makeAt_any (-a) (-h) an hn _ (by omega) (by omega) H.out.tb Ean Ehn).mono ?_
    rintro _ _ ⟨rfl, hb⟩
    replace H := Lib.hid (H.out.go hb)
    clear hb
    go_wp2_with (first
        | go_skip)
    refine (makeAt_any (a) (-h) ap hn _ (by omega) (by omega) H.out.tb Eap Ehn).mono ?_
    rintro _ _ ⟨rfl, hb⟩
    replace H := Lib.hid (H.out.go hb)
    clear hb
    go_wp2_with (first
        | go_skip)
    refine (makeAt_any (a) (h) ap hp _ (by omega) (by omega) H.out.tb Eap Ehp).mono ?_
    rintro _ _ ⟨rfl, hb⟩
    replace H := Lib.hid (H.out.go hb)
    clear hb
    go_wp2_with (first
        | go_skip)
    refine (makeAt_any (-a) (h) an hp _ (by omega) (by omega) H.out.tb Ean Ehp).mono ?_
    rintro _ _ ⟨rfl, hb⟩
    replace H := Lib.hid (H.out.go hb)
    clear hb
    go_wp2_with (first
        | ((with_reducible refine isSlice ?_); refine wpList_sliceH H 44 (vecC [(an, hn), (ap, hn), (ap, hp), (an, hp)]) 4 rfl rfl (by intro W; kernel_rfl) ?_; clear H; intro _ _ H; (simp only [Act.put, List.setIfInBounds_toArray, List.set_cons_succ, List.set_cons_zero])))
    go_ret
    exact ⟨_, _, rfl, H.out⟩
  by_cases c1 : S.s2.nx 4 = 1
  · have L1 := L0.2.1 c1
    clear L0
    clear c0
    have n5 := S.s2.sn.nx_bd (2 * a + 1) (by omega)
    obtain ⟨x, hx⟩ : ∃ x : Int, S.s2.sn.nx (2 * a + 1) = x := ⟨_, rfl⟩
    rw [hx] at n5 L1
    obtain ⟨n5l, n5r⟩ := n5
    have w2 : IntKind.i64.wrap (2 * a) = 2 * a := IntWalk.i64_in _ (by omega)
    have w3 : IntKind.i64.wrap (2 * a + 1) = 2 * a + 1 := IntWalk.i64_in _ (by omega)
    have wx : IntKind.i64.wrap (x - a) = x - a := IntWalk.i64_in _ (by omega)
    obtain ⟨an, Ean⟩ : ∃ z : Rat, Hid (ofQ (-a) 4 = z) := ⟨_, rfl⟩
    obtain ⟨hn, Ehn⟩ : ∃ z : Rat, Hid (ofQ (-h) 4 = z) := ⟨_, rfl⟩
    obtain ⟨ap, Eap⟩ : ∃ z : Rat, Hid (ofQ a 4 = z) := ⟨_, rfl⟩
    obtain ⟨xa, Exa⟩ : ∃ z : Rat, Hid (ofQ (x - a) 4 = z) := ⟨_, rfl⟩
    obtain ⟨hp, Ehp⟩ : ∃ z : Rat, Hid (ofQ h 4 = z) := ⟨_, rfl⟩
    rw [Ean.out, Ehn.out, Eap.out, Exa.out, Ehp.out] at L1
    rw [L1]
    clear L1
    go_enter Tryz.func50, Tryz.ntmps50
    go_wp2_with (first
        | go_skip)
    refine (nextH_any S g 6 H hS U1 (by decide) (by decide)).mono ?_
    rintro _ _ ⟨rfl, H2⟩
    replace H := Lib.hid H2
    clear H2
    go_wp2_with (first
        | go_skip)
    refine (nextH_any S.sn g 6 H HS1 U2 (by decide) (by decide)).mono ?_
    rintro _ _ ⟨rfl, H2⟩
    replace H := Lib.hid H2
    clear H2
    go_wp2_with (first
        | go_skip)
    refine (nextH_any S.s2 g 4 H HS2 U3 (by decide) (by decide)).mono ?_
    rintro _ _ ⟨rfl, H2⟩
    replace H := Lib.hid H2
    clear H2
    go_wp2_with (first
        | go_skip)
    refine (makeAt_any (-a) (-h) an hn _ (by omega) (by omega) H.out.tb Ean Ehn).mono ?_
    rintro _ _ ⟨rfl, hb⟩
    replace H := Lib.hid (H.out.go hb)
    clear hb
    go_wp2_with (first
        | go_skip)
    refine (makeAt_any (a) (-h) ap hn _ (by omega) (by omega) H.out.tb Eap Ehn).mono ?_
    rintro _ _ ⟨rfl, hb⟩
    replace H := Lib.hid (H.out.go hb)
    clear hb
    go_wp2_with (first
        | go_skip)
    obtain ⟨m4, hm4⟩ := upd_of_mem [S.s2.sn.sn.v] U3.out.mem2
    have U4 := Lib.hid hm4
    clear hm4
    refine (nextH_any S.s2.sn g (2 * a + 1) H HS3 U4 (by omega) (by omega)).mono ?_
    rintro _ _ ⟨rfl, H2⟩
    replace H := Lib.hid H2
    clear H2
    rw [hx]
    clear hx
    go_wp2_with (first
        | go_skip)
    refine (makeAt_any ((x - a)) (h) xa hp _ (by omega) (by omega) H.out.tb Exa Ehp).mono ?_
    rintro _ _ ⟨rfl, hb⟩
    replace H := Lib.hid (H.out.go hb)
    clear hb
    go_wp2_with (first
        | ((with_reducible refine isSlice ?_); refine wpList_sliceH H 44 (vecC [(an, hn), (ap, hn), (xa, hp)]) 3 rfl rfl (by intro W; kernel_rfl) ?_; clear H; intro _ _ H; (simp only [Act.put, List.setIfInBounds_toArray, List.set_cons_succ, List.set_cons_zero])))
    go_ret
    exact ⟨_, _, rfl, H.out⟩
  by_cases c2 : S.s2.nx 4 = 2
  · have L1 := L0.2.2.1 c2
    clear L0
    clear c0 c1
    have w4 : IntKind.i64.wrap (-a - 1) = -a - 1 := IntWalk.i64_in _ (by omega)
    have w5 : IntKind.i64.wrap (-h - 1) = -h - 1 := IntWalk.i64_in _ (by omega)
    have w6 : IntKind.i64.wrap (a + 1) = a + 1 := IntWalk.i64_in _ (by omega)
    obtain ⟨am, Eam⟩ : ∃ z : Rat, Hid (ofQ (-a - 1) 4 = z) := ⟨_, rfl⟩
    obtain ⟨hm, Ehm⟩ : ∃ z : Rat, Hid (ofQ (-h - 1) 4 = z) := ⟨_, rfl⟩
    obtain ⟨ap, Eap⟩ : ∃ z : Rat, Hid (ofQ a 4 = z) := ⟨_, rfl⟩
    obtain ⟨aq, Eaq⟩ : ∃ z : Rat, Hid (ofQ (a + 1) 4 = z) := ⟨_, rfl⟩
    obtain ⟨hn, Ehn⟩ : ∃ z : Rat, Hid (ofQ (-h) 4 = z) := ⟨_, rfl⟩
    obtain ⟨hp, Ehp⟩ : ∃ z : Rat, Hid (ofQ h 4 = z) := ⟨_, rfl⟩
    rw [Eam.out, Ehm.out, Eap.out, Eaq.out, Ehn.out, Ehp.out] at L1
    rw [L1]
    clear L1
    go_enter Tryz.func50, Tryz.ntmps50
    go_wp2_with (first
        | go_skip)
    refine (nextH_any S g 6 H hS U1 (by decide) (by decide)).mono ?_
    rintro _ _ ⟨rfl, H2⟩
    replace H := Lib.hid H2
    clear H2
    go_wp2_with (first
        | go_skip)
    refine (nextH_any S.sn g 6 H HS1 U2 (by decide) (by decide)).mono ?_
    rintro _ _ ⟨rfl, H2⟩
    replace H := Lib.hid H2
    clear H2
    go_wp2_with (first
        | go_skip)
    refine (nextH_any S.s2 g 4 H HS2 U3 (by decide) (by decide)).mono ?_
    rintro _ _ ⟨rfl, H2⟩
    replace H := Lib.hid H2
    clear H2
    go_wp2_with (first
        | go_skip)
    refine (makeAt_any ((-a - 1)) ((-h - 1)) am hm _ (by omega) (by omega) H.out.tb Eam Ehm).mono ?_
    rintro _ _ ⟨rfl, hb⟩
    replace H := Lib.hid (H.out.go hb)
    clear hb
    go_wp2_with (first
        | go_skip)
    refine (makeAt_any (a) ((-h - 1)) ap hm _ (by omega) (by omega) H.out.tb Eap Ehm).mono ?_
    rintro _ _ ⟨rfl, hb⟩
    replace H := Lib.hid (H.out.go hb)
    clear hb
    go_wp2_with (first
        | go_skip)
    refine (makeAt_any ((a + 1)) (-h) aq hn _ (by omega) (by omega) H.out.tb Eaq Ehn).mono ?_
    rintro _ _ ⟨rfl, hb⟩
    replace H := Lib.hid (H.out.go hb)
    clear hb
    go_wp2_with (first
        | go_skip)
    refine (makeAt_any ((a + 1)) (h) aq hp _ (by omega) (by omega) H.out.tb Eaq Ehp).mono ?_
    rintro _ _ ⟨rfl, hb⟩
    replace H := Lib.hid (H.out.go hb)
    clear hb
    go_wp2_with (first
        | go_skip)
    refine (makeAt_any ((-a - 1)) (h) am hp _ (by omega) (by omega) H.out.tb Eam Ehp).mono ?_
    rintro _ _ ⟨rfl, hb⟩
    replace H := Lib.hid (H.out.go hb)
    clear hb
    go_wp2_with (first
        | ((with_reducible refine isSlice ?_); refine wpList_sliceH H 44 (vecC [(am, hm), (ap, hm), (aq, hn), (aq, hp), (am, hp)]) 5 rfl rfl (by intro W; kernel_rfl) ?_; clear H; intro _ _ H; (simp only [Act.put, List.setIfInBounds_toArray, List.set_cons_succ, List.set_cons_zero])))
    go_ret
    exact ⟨_, _, rfl, H.out⟩
  have c3 : S.s2.nx 4 = 3 := by omega
  have L1 := L0.2.2.2 c3
  clear L0
  clear c0 c1 c2
  obtain ⟨an, Ean⟩ : ∃ z : Rat, Hid (ofQ (-a) 4 = z) := ⟨_, rfl⟩
  obtain ⟨zz, Ezz⟩ : ∃ z : Rat, Hid (ofQ 0 4 = z) := ⟨_, rfl⟩
  obtain ⟨hn, Ehn⟩ : ∃ z : Rat, Hid (ofQ (-h) 4 = z) := ⟨_, rfl⟩
  obtain ⟨ap, Eap⟩ : ∃ z : Rat, Hid (ofQ a 4 = z) := ⟨_, rfl⟩
  obtain ⟨hp, Ehp⟩ : ∃ z : Rat, Hid (ofQ h 4 = z) := ⟨_, rfl⟩
  rw [Ean.out, Ezz.out, Ehn.out, Eap.out, Ehp.out] at L1
  rw [L1]
  clear L1
  go_enter Tryz.func50, Tryz.ntmps50
  go_wp2_with (first
      | go_skip)
  refine (nextH_any S g 6 H hS U1 (by decide) (by decide)).mono ?_
  rintro _ _ ⟨rfl, H2⟩
  replace H := Lib.hid H2
  clear H2
  go_wp2_with (first
      | go_skip)
  refine (nextH_any S.sn g 6 H HS1 U2 (by decide) (by decide)).mono ?_
  rintro _ _ ⟨rfl, H2⟩
  replace H := Lib.hid H2
  clear H2
  go_wp2_with (first
      | go_skip)
  refine (nextH_any S.s2 g 4 H HS2 U3 (by decide) (by decide)).mono ?_
  rintro _ _ ⟨rfl, H2⟩
  replace H := Lib.hid H2
  clear H2
  go_wp2_with (first
      | go_skip)
  refine (makeAt_any (-a) (0) an zz _ (by omega) (by omega) H.out.tb Ean Ezz).mono ?_
  rintro _ _ ⟨rfl, hb⟩
  replace H := Lib.hid (H.out.go hb)
  clear hb
  go_wp2_with (first
      | go_skip)
  refine (makeAt_any (0) (-h) zz hn _ (by omega) (by omega) H.out.tb Ezz Ehn).mono ?_
  rintro _ _ ⟨rfl, hb⟩
  replace H := Lib.hid (H.out.go hb)
  clear hb
  go_wp2_with (first
      | go_skip)
  refine (makeAt_any (a) (0) ap zz _ (by omega) (by omega) H.out.tb Eap Ezz).mono ?_
  rintro _ _ ⟨rfl, hb⟩
  replace H := Lib.hid (H.out.go hb)
  clear hb
  go_wp2_with (first
      | go_skip)
  refine (makeAt_any (0) (h) zz hp _ (by omega) (by omega) H.out.tb Ezz Ehp).mono ?_
  rintro _ _ ⟨rfl, hb⟩
  replace H := Lib.hid (H.out.go hb)
  clear hb
  go_wp2_with (first
      | ((with_reducible refine isSlice ?_); refine wpList_sliceH H 44 (vecC [(an, zz), (zz, hn), (ap, zz), (zz, hp)]) 4 rfl rfl (by intro W; kernel_rfl) ?_; clear H; intro _ _ H; (simp only [Act.put, List.setIfInBounds_toArray, List.set_cons_succ, List.set_cons_zero])))
  go_ret
  exact ⟨_, _, rfl, H.out⟩
end Go.Proofs.YtmfejdikfpckdaaGreatDoor

namespace Go.Proofs.YtmfejdikfpckdaaGreatDoor
open Go.RowKit
set_option linter.unusedVariables false
set_option maxRecDepth 100000

set_option maxHeartbeats 4000000 in
theorem Poly_any (S : Sd) (w : World) (hS : S.ok w) (hT : Tb w) :
    Calls Tryz.prog 24 #[.slice S.A S.xs.length S.c] w fun e w' => ∃ b, e = .returned (.slice (some ⟨b, 0, none⟩) (polyL S).length (polyL S).length) ∧ w.heap.size ≤ b ∧ Blk w' b 44 (vecC (polyL S)).toArray ∧ Below w.heap.size w w' := by
  have H := Lib.hid (Hp.start hT)
  have HS0 := Lib.hid hS
  clear hT hS
  go_enter Tryz.func24, Tryz.ntmps24
  go_wp2_with (first
      | ((with_reducible refine isBox ?_); refine bxA H ?_; clear H; intro _ _ H))
  refine (poly_any S _ H HS0 (by (repeat (first | exact List.Mem.head _ | refine List.Mem.tail _ ?_ | assumption)))).mono ?_
  rintro _ _ ⟨b, m2, rfl, H2⟩
  replace H := Lib.hid H2
  clear H2
  go_wp2_with (first
      | go_skip)
  go_ret
  exact ⟨_, rfl, (H.out.blk _ (.head _)).1, (H.out.blk _ (.head _)).2, H.out.bel⟩
end Go.Proofs.YtmfejdikfpckdaaGreatDoor
