/- The walks of slices.IndexFunc and ContainsFunc with Within's function, of fact.Within, and of FactLaws' function. -/
import Derived.Test.YtobaoddfffjagaaFactI
namespace Go.Proofs.Ytobaoddfffjagaa
open Go.RowKit
set_option linter.unusedVariables false

set_option maxHeartbeats 2000000 in
theorem indexFuncF_any (A : Option Addr) (n c : Nat) (fs : List Fct) (g m d : Nat) (B : Option Addr) (gs : List Fct) (w : World) (hR : RF w A fs) (hn : fs.length = n) (hn1 : n ≤ 1000) (hc : w.cell? ⟨g, 0, none⟩ = some (.slice B m d)) (hS : RF w B gs) (hm : gs.length = m) (hm1 : m ≤ 1000) :
    Calls Try.prog 33 #[.slice A n c, .func (.func 26) #[] #[.pointer (some ⟨g, 0, none⟩)]] w fun e w' => (∃ r, e = .returned (.int .i64 r) ∧ ((∀ f ∈ fs, f ∈ gs) ↔ r < 0) ∧ -1 ≤ r ∧ r ≤ 1000) ∧ Below w.heap.size w w' := by
  subst hn
  have R0 := Lib.hid hR
  have S0 := Lib.hid hS
  have Hm := Lib.hid hm
  have C0 := Lib.hid hc
  clear hR hS hm hc
  go_enter Try.func33, Try.ntmps33
  go_wp2_with fail
  go_loopw [8] (fun i wr => ∃ k : Nat, k ≤ fs.length ∧ i = .int .i64 k ∧ Hid (∀ f ∈ fs.take k, f ∈ gs) ∧ Hid (Below w.heap.size w wr)) (fun i _ => fs.length - (intOf i).toNat)
  case atStart => exact ⟨0, by omega, rfl, by simp [Hid], Below.refl _ _⟩
  case round =>
    obtain ⟨k, hk, rfl, hall, Bl⟩ := hrel
    have Zl := Lib.hid Bl.out.size
    by_cases hlt : k < fs.length
    · obtain ⟨x, hx⟩ := some_at hlt
      obtain ⟨b, o, rfl, hb, c0, c1, c2⟩ := RF.at (R0.out.below Bl.out) hx
      have Hx := Lib.hid hx
      clear hx
      go_wp2_with fail
      obtain ⟨r, hr⟩ : ∃ r, r = decide (x ∈ gs) := ⟨_, rfl⟩
      refine (WithinF_any g m d B x gs _ (keep_cell Bl.out C0.out) (S0.out.below Bl.out) Hm.out hm1 r hr).mono ?_
      rintro e w2 ⟨rfl, hb2⟩
      have B2 := Lib.hid (Bl.out.trans (hb2.mono Zl.out))
      have HR := Lib.hid hr
      clear hb2 hr
      cases r with
      | true =>
        go_wp2_with fail
        go_roundw
        case rel =>
          refine ⟨k + 1, hlt, by go_num, ?_, B2⟩
          intro f hf
          rw [List.take_add_one, Hx.out, Option.toList_some] at hf
          rcases List.mem_append.1 hf with hf | hf
          · exact hall.out f hf
          · rw [List.mem_singleton.1 hf]; exact of_decide_eq_true HR.out.symm
        case measure => simp [intOf]; omega
      | false =>
        go_wp2_with fail
        go_ret
        exact ⟨⟨k, rfl, ⟨fun h => absurd (h x (List.mem_of_getElem? Hx.out)) (of_decide_eq_false HR.out.symm), fun h => by omega⟩, by omega, by omega⟩, B2.out⟩
    · have hkn : k = fs.length := by omega
      have Hall : Hid (∀ f ∈ fs, f ∈ gs) := by have := hall.out; rwa [hkn, List.take_length] at this
      clear hkn
      go_wp2_with fail
      go_ret
      exact ⟨⟨-1, rfl, ⟨fun _ => by omega, fun _ => Hall.out⟩, by omega, by omega⟩, Bl.out⟩

set_option maxHeartbeats 2000000 in
theorem containsFuncF_any (A : Option Addr) (n c : Nat) (fs : List Fct) (g m d : Nat) (B : Option Addr) (gs : List Fct) (w : World) (hR : RF w A fs) (hn : fs.length = n) (hn1 : n ≤ 1000) (hc : w.cell? ⟨g, 0, none⟩ = some (.slice B m d)) (hS : RF w B gs) (hm : gs.length = m) (hm1 : m ≤ 1000) (r : Bool) (hr : Hid (r = !decide (∀ f ∈ fs, f ∈ gs))) :
    Calls Try.prog 25 #[.slice A n c, .func (.func 26) #[] #[.pointer (some ⟨g, 0, none⟩)]] w fun e w' => e = .returned (.bool r) ∧ Below w.heap.size w w' := by
  have R0 := Lib.hid hR
  have S0 := Lib.hid hS
  have Hm := Lib.hid hm
  have Hn := Lib.hid hn
  have C0 := Lib.hid hc
  clear hR hS hm hc hn
  go_enter Try.func25, Try.ntmps25
  go_wp2_with fail
  refine (indexFuncF_any A n c fs g m d B gs _ R0.out Hn.out hn1 C0.out S0.out Hm.out hm1).mono ?_
  rintro e w2 ⟨⟨q, rfl, hq, hq1, hq2⟩, hb⟩
  have HQ := Lib.hid hq
  have B2 := Lib.hid hb
  clear hq hb
  go_wp2_with fail
  go_ret
  refine ⟨ret_bool ?_, B2.out⟩
  rw [hr.out]
  by_cases h : ∀ f ∈ fs, f ∈ gs
  · have := HQ.out.1 h
    rw [decide_eq_true h]; simp; omega
  · have : ¬ q < 0 := fun h2 => h (HQ.out.2 h2)
    rw [decide_eq_false h]; simp; omega

set_option maxHeartbeats 2000000 in
theorem Within_any (A B : Option Addr) (n m c d : Nat) (fs gs : List Fct) (w : World) (hR : RF w A fs) (hS : RF w B gs) (hn : fs.length = n) (hm : gs.length = m) (hn1 : n ≤ 1000) (hm1 : m ≤ 1000) (r : Bool) (hr : Hid (r = decide (∀ f ∈ fs, f ∈ gs))) :
    Calls Try.prog 16 #[.slice A n c, .slice B m d] w fun e w' => e = .returned (.bool r) ∧ Below w.heap.size w w' := by
  have B1 := Lib.hid ((Below.refl w.heap.size w).alloc (Nat.le_refl _) (.cells #[.slice B m d] 23))
  have R1 := Lib.hid (hR.below B1.out)
  have S1 := Lib.hid (hS.below B1.out)
  have Hm := Lib.hid hm
  have Hn := Lib.hid hn
  have hc := Lib.hid ((Blk.new w 23 #[.slice B m d]).cell 0)
  have hr2 : Hid ((!r) = !decide (∀ f ∈ fs, f ∈ gs)) := by unfold Hid; rw [hr.out]
  clear hR hS hm hn
  go_enter Try.func16, Try.ntmps16
  go_wp2_with fail
  refine (containsFuncF_any A n c fs _ m d B gs _ R1.out Hn.out hn1 hc.out S1.out Hm.out hm1 (!r) hr2).mono ?_
  rintro e w2 ⟨rfl, hb⟩
  have B2 := Lib.hid (B1.out.trans (hb.mono B1.out.size))
  clear hb
  go_wp2_with fail
  go_ret
  exact ⟨ret_bool (by simp), B2.out⟩

set_option maxHeartbeats 2000000 in
theorem eqF_any (A B : Option Addr) (n m c d : Nat) (fs gs : List Fct) (w : World) (r : Bool) (hn : fs.length = n) (hm : gs.length = m) (hl : n ≤ 1000) (hl' : m ≤ 1000) (hX : RF w A fs) (hY : RF w B gs) (hr : Hid (r = decide (fs = gs))) :
    Calls Try.prog 13 #[.slice A n c, .slice B m d] w fun e w' => e = .returned (.bool r) ∧ Below w.heap.size w w' := by
  have R0 := Lib.hid hX
  have S0 := Lib.hid hY
  have Hm := Lib.hid hm
  have Hn := Lib.hid hn
  clear hX hY hm hn
  go_enter Try.func13, Try.ntmps13
  go_wp2_with fail
  refine (equalF_any A B n m c d fs gs _ r Hn.out Hm.out (by omega) (by omega) R0.out S0.out hr).mono ?_
  rintro e w2 ⟨rfl, q, rfl⟩
  go_wp2_with fail
  go_ret
  exact ⟨rfl, below_drewN (Below.refl _ _) q⟩
end Go.Proofs.Ytobaoddfffjagaa
