/- parse.Print. Printed by gen/prv.py. · parse.Same. Printed by gen/sma.py. · ParseSpaces: a text that can be read is printed such that it is read as the same job; printing is then stable. · A job of the maker that is printed is read as the same job. No walk. · ParseBack: a job that is printed and read is the same. -/
import Derived.Test.YtaiokjhjakdhaaaGreatDoorPb25
import Derived.Test.YtaiokjhjakdhaaaGreatDoorPb24
namespace Go.Proofs.YtaiokjhjakdhaaaGreatDoor
open Go.RowKit
set_option linter.unusedVariables false
set_option maxRecDepth 100000

/-! parse.Print, every word list -/
set_option maxHeartbeats 4000000 in
theorem PrintV_ok (E : Ents) (d : Nat) (l : List Stm) (f : Stm → List ByteArray) (nm js : ByteArray) (hS : ∀ (j : Nat) (s : Stm), l[j]? = some s → PrV E d s (f s)) (w0 w : World) (m : Ents) (x : Value) (H : Hid (Hp w0 w m)) (HE : Hid (∀ x ∈ E, x ∈ m)) (RS : Hid (RSs E d l x)) (VV : Hid (Vr w0)) (hn : nm.size ≤ maxLen) (hc : Hid (checkE d nm l = 0)) (hb : 2 + (blW f l).length ≤ 100000)
    (J : Hid (js = ⟨(Lib.join ((⟨#[106, 111, 98]⟩ :: nm :: blW f l).map (·.data.toList)) [32]).toArray⟩)) (hl : (Lib.join ((⟨#[106, 111, 98]⟩ :: nm :: blW f l).map (·.data.toList)) [32]).length ≤ 4096) :
    Calls Tryz.prog 7 #[.agg #[.string nm, x]] w fun e w' => e = .returned (.tuple #[.string js, .int .i64 0]) ∧ Hp w0 w' m := by
  have hjs : Hid ((js.size : Int) ≤ 4096) := Lib.hid (by rw [J.out]; show ((List.toArray _).size : Int) ≤ 4096; rw [List.size_toArray]; omega)
  have hjd : Hid (decide ((4096 : Int) < js.size) = false) := Lib.hid (decide_eq_false (by have := hjs.out; omega))
  have HL := Lib.hid hl
  have HSS := Lib.hid hS
  clear hl hS hjs
  obtain ⟨B, c, rfl⟩ := RS.out.shape
  go_enter Tryz.func7, Tryz.ntmps7
  go_wp2_with (first
      | go_skip
      | ((with_reducible refine isLoad ?_); refine ldA H ?_ (hT := rJob))
      | ((with_reducible refine isLoad ?_); refine ld1A H ?_ (hT := by first | exact kInt | exact kStl | exact kBll | exact kStr | exact kStrs))
      | ((with_reducible refine isBox ?_); first | (refine bxA (t := 25) H ?_; clear H; intro qj _ H) | (refine bxA (t := 70) H ?_; clear H; intro bp _ H))
      | ((with_reducible refine isSlc ?_); first | (refine bsA 9 [.string ⟨#[106, 111, 98]⟩, .string nm] 2 H ?_; clear H; intro gz _ H)))
  go_at_call 14
  refine Calls.mono (Check_any d E nm l _ _ hn RS (Lib.hid (H.out.hld (fun x hx => .tail _ (HE.out x hx)))) H.out.tb) ?_
  rintro _ _ ⟨rfl, hB⟩
  replace H := Lib.hid (H.out.go hB)
  rw [hc.out]
  clear hB
  go_wp2_with (first
      | go_skip
      | ((with_reducible refine isLoad ?_); refine ldA H ?_ (hT := rJob))
      | ((with_reducible refine isLoad ?_); refine ld1A H ?_ (hT := by first | exact kInt | exact kStl | exact kBll | exact kStr | exact kStrs))
      | ((with_reducible refine isBox ?_); first | (refine bxA (t := 25) H ?_; clear H; intro qj _ H) | (refine bxA (t := 70) H ?_; clear H; intro bp _ H))
      | ((with_reducible refine isSlc ?_); first | (refine bsA 9 [.string ⟨#[106, 111, 98]⟩, .string nm] 2 H ?_; clear H; intro gz _ H)))
  go_at_call 15
  have H' := Lib.hid (H.out.perm (List.Perm.swap _ _ _))
  have hcall := put_any w0 _ _ bp gz (.slice none 0 0) 0 2 [] [⟨#[106, 111, 98]⟩, nm] [] H' (Lib.hid (RowV.nil 1)) (Lib.hid (.head _)) rfl (by decide) (by omega)
  clear H H'
  refine Calls.mono hcall ?_
  clear hcall
  rintro _ _ ⟨v2, cur2, rfl, hR, h2⟩
  obtain ⟨B2, c2, rfl, _⟩ := hR.shape
  have R := Lib.hid hR
  have H := Lib.hid (h2.perm roll3.symm)
  clear hR h2
  go_wp2_with (first
      | go_skip
      | ((with_reducible refine isLoad ?_); refine ld1A H ?_ (hT := by first | exact kInt | exact kStl | exact kBll | exact kStr | exact kStrs)))
  go_at_call 16
  have H' := Lib.hid (H.out.perm roll3)
  clear H
  have hcall := blockV_any E d l f HSS.out w0 _ _ bp _ _ _ _ cur2 H' R (Lib.hid (fun x hx => .tail _ (.tail _ (HE.out x hx)))) RS VV (by omega)
  clear H' R HSS
  refine Calls.mono hcall ?_
  clear hcall
  rintro _ _ ⟨v2, cur2, rfl, hR, h2⟩
  obtain ⟨g, c3, rfl, hg, hc3, hln, hcell⟩ := hR.cells_ (X := [(bp, 70, [v2])]) h2 (by omega)
  have H := Lib.hid h2
  have HC := Lib.hid hcell
  have HLN := Lib.hid hln
  clear hR h2 hcell hln
  go_wp2_with (first
      | go_skip
      | ((with_reducible refine isLoad ?_); refine ld1A H ?_ (hT := by first | exact kInt | exact kStl | exact kBll | exact kStr | exact kStrs)))
  go_at_call 17
  have hcall := Tryz.strings_Join g 0 c3 (⟨#[106, 111, 98]⟩ :: nm :: blW f l) ⟨#[32]⟩ _ HC.out hg (by rw [show (⟨#[106, 111, 98]⟩ :: nm :: blW f l).length = _ from HLN.out]; omega) (by rw [show (⟨#[106, 111, 98]⟩ :: nm :: blW f l).length = _ from HLN.out]; exact hc3) (by have := HL.out; simp only at this ⊢; omega)
  rw [show (⟨#[106, 111, 98]⟩ :: nm :: blW f l).length = _ from HLN.out] at hcall
  refine Calls.mono hcall ?_
  clear hcall
  rintro _ _ ⟨rfl, hB⟩
  replace H := Lib.hid (H.out.go hB)
  rw [show (⟨(Lib.join ((⟨#[106, 111, 98]⟩ :: nm :: blW f l).map (·.data.toList)) [32]).toArray⟩ : ByteArray) = js from J.out.symm]
  clear hB
  replace hjd := hjd.out
  go_wp2_with (first
      | go_skip
      | ((with_reducible refine isLoad ?_); refine ld1A H ?_ (hT := by first | exact kInt | exact kStl | exact kBll | exact kStr | exact kStrs)))
  go_ret2
  exact ⟨rfl, H.out.sub (by (repeat (first | exact List.Sublist.refl _ | refine List.Sublist.cons_cons _ ?_ | refine List.Sublist.trans ?_ (List.sublist_append_right _ _) | refine List.Sublist.cons _ ?_)))⟩
set_option maxHeartbeats 4000000 in
theorem PrintV_big (E : Ents) (d : Nat) (l : List Stm) (f : Stm → List ByteArray) (nm js : ByteArray) (hS : ∀ (j : Nat) (s : Stm), l[j]? = some s → PrV E d s (f s)) (w0 w : World) (m : Ents) (x : Value) (H : Hid (Hp w0 w m)) (HE : Hid (∀ x ∈ E, x ∈ m)) (RS : Hid (RSs E d l x)) (VV : Hid (Vr w0)) (hn : nm.size ≤ maxLen) (hc : Hid (checkE d nm l = 0)) (hb : 2 + (blW f l).length ≤ 100000)
    (J : Hid (js = ⟨(Lib.join ((⟨#[106, 111, 98]⟩ :: nm :: blW f l).map (·.data.toList)) [32]).toArray⟩)) (hl : (Lib.join ((⟨#[106, 111, 98]⟩ :: nm :: blW f l).map (·.data.toList)) [32]).length ≤ 100000) (hl2 : ¬ (Lib.join ((⟨#[106, 111, 98]⟩ :: nm :: blW f l).map (·.data.toList)) [32]).length ≤ 4096) :
    Calls Tryz.prog 7 #[.agg #[.string nm, x]] w fun e w' => e = .returned (.tuple #[.string ⟨#[]⟩, .int .i64 2]) ∧ Hp w0 w' m := by
  have hjs : Hid ((4096 : Int) < js.size) := Lib.hid (by rw [J.out]; show (4096 : Int) < ((List.toArray _).size : Int); rw [List.size_toArray]; omega)
  have hjd : Hid (decide ((4096 : Int) < js.size) = true) := Lib.hid (decide_eq_true hjs.out)
  have HL := Lib.hid hl
  have HSS := Lib.hid hS
  clear hl hl2 hS hjs
  obtain ⟨B, c, rfl⟩ := RS.out.shape
  go_enter Tryz.func7, Tryz.ntmps7
  go_wp2_with (first
      | go_skip
      | ((with_reducible refine isLoad ?_); refine ldA H ?_ (hT := rJob))
      | ((with_reducible refine isLoad ?_); refine ld1A H ?_ (hT := by first | exact kInt | exact kStl | exact kBll | exact kStr | exact kStrs))
      | ((with_reducible refine isBox ?_); first | (refine bxA (t := 25) H ?_; clear H; intro qj _ H) | (refine bxA (t := 70) H ?_; clear H; intro bp _ H))
      | ((with_reducible refine isSlc ?_); first | (refine bsA 9 [.string ⟨#[106, 111, 98]⟩, .string nm] 2 H ?_; clear H; intro gz _ H)))
  go_at_call 14
  refine Calls.mono (Check_any d E nm l _ _ hn RS (Lib.hid (H.out.hld (fun x hx => .tail _ (HE.out x hx)))) H.out.tb) ?_
  rintro _ _ ⟨rfl, hB⟩
  replace H := Lib.hid (H.out.go hB)
  rw [hc.out]
  clear hB
  go_wp2_with (first
      | go_skip
      | ((with_reducible refine isLoad ?_); refine ldA H ?_ (hT := rJob))
      | ((with_reducible refine isLoad ?_); refine ld1A H ?_ (hT := by first | exact kInt | exact kStl | exact kBll | exact kStr | exact kStrs))
      | ((with_reducible refine isBox ?_); first | (refine bxA (t := 25) H ?_; clear H; intro qj _ H) | (refine bxA (t := 70) H ?_; clear H; intro bp _ H))
      | ((with_reducible refine isSlc ?_); first | (refine bsA 9 [.string ⟨#[106, 111, 98]⟩, .string nm] 2 H ?_; clear H; intro gz _ H)))
  go_at_call 15
  have H' := Lib.hid (H.out.perm (List.Perm.swap _ _ _))
  have hcall := put_any w0 _ _ bp gz (.slice none 0 0) 0 2 [] [⟨#[106, 111, 98]⟩, nm] [] H' (Lib.hid (RowV.nil 1)) (Lib.hid (.head _)) rfl (by decide) (by omega)
  clear H H'
  refine Calls.mono hcall ?_
  clear hcall
  rintro _ _ ⟨v2, cur2, rfl, hR, h2⟩
  obtain ⟨B2, c2, rfl, _⟩ := hR.shape
  have R := Lib.hid hR
  have H := Lib.hid (h2.perm roll3.symm)
  clear hR h2
  go_wp2_with (first
      | go_skip
      | ((with_reducible refine isLoad ?_); refine ld1A H ?_ (hT := by first | exact kInt | exact kStl | exact kBll | exact kStr | exact kStrs)))
  go_at_call 16
  have H' := Lib.hid (H.out.perm roll3)
  clear H
  have hcall := blockV_any E d l f HSS.out w0 _ _ bp _ _ _ _ cur2 H' R (Lib.hid (fun x hx => .tail _ (.tail _ (HE.out x hx)))) RS VV (by omega)
  clear H' R HSS
  refine Calls.mono hcall ?_
  clear hcall
  rintro _ _ ⟨v2, cur2, rfl, hR, h2⟩
  obtain ⟨g, c3, rfl, hg, hc3, hln, hcell⟩ := hR.cells_ (X := [(bp, 70, [v2])]) h2 (by omega)
  have H := Lib.hid h2
  have HC := Lib.hid hcell
  have HLN := Lib.hid hln
  clear hR h2 hcell hln
  go_wp2_with (first
      | go_skip
      | ((with_reducible refine isLoad ?_); refine ld1A H ?_ (hT := by first | exact kInt | exact kStl | exact kBll | exact kStr | exact kStrs)))
  go_at_call 17
  have hcall := Tryz.strings_Join g 0 c3 (⟨#[106, 111, 98]⟩ :: nm :: blW f l) ⟨#[32]⟩ _ HC.out hg (by rw [show (⟨#[106, 111, 98]⟩ :: nm :: blW f l).length = _ from HLN.out]; omega) (by rw [show (⟨#[106, 111, 98]⟩ :: nm :: blW f l).length = _ from HLN.out]; exact hc3) (by have := HL.out; simp only at this ⊢; omega)
  rw [show (⟨#[106, 111, 98]⟩ :: nm :: blW f l).length = _ from HLN.out] at hcall
  refine Calls.mono hcall ?_
  clear hcall
  rintro _ _ ⟨rfl, hB⟩
  replace H := Lib.hid (H.out.go hB)
  rw [show (⟨(Lib.join ((⟨#[106, 111, 98]⟩ :: nm :: blW f l).map (·.data.toList)) [32]).toArray⟩ : ByteArray) = js from J.out.symm]
  clear hB
  replace hjd := hjd.out
  go_wp2_with (first
      | go_skip
      | ((with_reducible refine isLoad ?_); refine ld1A H ?_ (hT := by first | exact kInt | exact kStl | exact kBll | exact kStr | exact kStrs)))
  go_ret2
  exact ⟨rfl, H.out.sub (by (repeat (first | exact List.Sublist.refl _ | refine List.Sublist.cons_cons _ ?_ | refine List.Sublist.trans ?_ (List.sublist_append_right _ _) | refine List.Sublist.cons _ ?_)))⟩
end Go.Proofs.YtaiokjhjakdhaaaGreatDoor

namespace Go.Proofs.YtaiokjhjakdhaaaGreatDoor
open Go.RowKit
set_option linter.unusedVariables false
set_option maxRecDepth 100000

def SamC (d : Nat) : Prop := ∀ (w0 w : World) (m Ea Eb : Ents) (s : Stm) (va vb : Sv), Hid (Hp w0 w m) → Hid (∀ x ∈ Ea, x ∈ m) → Hid (∀ x ∈ Eb, x ∈ m) → Hid (RSt Ea d s va) → Hid (RSt Eb d s vb) → Calls Tryz.prog 37 #[.agg va.cells.toArray, .agg vb.cells.toArray] w fun e w' => e = .returned (.bool true) ∧ Hp w0 w' m
def EqsC (d : Nat) : Prop := ∀ (w0 w : World) (m Ea Eb : Ents) (l : List Stm) (x y : Value), Hid (Hp w0 w m) → Hid (∀ x ∈ Ea, x ∈ m) → Hid (∀ x ∈ Eb, x ∈ m) → Hid (RSs Ea d l x) → Hid (RSs Eb d l y) → Calls Tryz.prog 36 #[x, y, .func (.func 37) #[] #[]] w fun e w' => e = .returned (.bool true) ∧ Hp w0 w' m
def SalC (d : Nat) : Prop := ∀ (w0 w : World) (m Ea Eb : Ents) (l : List Stm) (x y : Value), Hid (Hp w0 w m) → Hid (∀ x ∈ Ea, x ∈ m) → Hid (∀ x ∈ Eb, x ∈ m) → Hid (RSs Ea d l x) → Hid (RSs Eb d l y) → Calls Tryz.prog 22 #[x, y] w fun e w' => e = .returned (.bool true) ∧ Hp w0 w' m
def EqbC (d : Nat) : Prop := ∀ (w0 w : World) (m Ea Eb : Ents) (l : List (List Stm)) (x y : Value), Hid (Hp w0 w m) → Hid (∀ x ∈ Ea, x ∈ m) → Hid (∀ x ∈ Eb, x ∈ m) → Hid (RBs Ea d l x) → Hid (RBs Eb d l y) → Calls Tryz.prog 56 #[x, y, .func (.func 22) #[] #[]] w fun e w' => e = .returned (.bool true) ∧ Hp w0 w' m
theorem kStlS : ∃ d, Tryz.prog.underlying 23 = some d ∧ d.isRow = false := ⟨_, Tryz.underlying23, rfl⟩
theorem kBllR : ∃ d, Tryz.prog.underlying 84 = some d ∧ d.isRow = false := ⟨_, Tryz.underlying84, rfl⟩
set_option maxHeartbeats 4000000 in
theorem eqs_of (d : Nat) (hC : SamC d) : EqsC d := by
  have HC := Lib.hid hC
  clear hC
  intro w0 w m Ea Eb l x y H HA HB RA RB
  obtain ⟨us, ra, ra2⟩ := RA.out
  obtain ⟨vs, rb, rb2⟩ := RB.out
  obtain ⟨n, hn⟩ : ∃ n, l.length = n := ⟨_, rfl⟩
  have ha : us.length = n := ra2.1.symm.trans hn
  have hb : vs.length = n := rb2.1.symm.trans hn
  rw [ha] at ra
  rw [hb] at rb
  obtain ⟨Ba, ca, rfl, _⟩ := ra.shape
  obtain ⟨Bb, cb, rfl, _⟩ := rb.shape
  have hle := ra.le
  have XA := Lib.hid ra
  have XB := Lib.hid rb
  have YA := Lib.hid ra2
  have YB := Lib.hid rb2
  have HL := Lib.hid hn
  have HLA := Lib.hid ha
  have HLB := Lib.hid hb
  clear ra rb ra2 rb2 hn ha hb RA RB
  go_enter Tryz.func36, Tryz.ntmps36
  go_wp2_with (first
      | go_skip)
  go_loopw [17] (fun i_ wr => ∃ j : Nat, i_ = .int .i64 j ∧ j ≤ n ∧ Hid (Hp w0 wr m)) (fun i_ _ => n - (intOf i_).toNat)
  case atStart => exact ⟨0, rfl, by omega, H⟩
  case round =>
    clear H
    obtain ⟨j, rfl, hj, H⟩ := hrel
    by_cases hlt : j < n
    · obtain ⟨s, hs⟩ : ∃ s, l[j]? = some s := ⟨_, List.getElem?_eq_getElem (by rw [HL.out]; exact hlt)⟩
      obtain ⟨va, hva, hRa⟩ := YA.out.at_ hs
      obtain ⟨vb, hvb, hRb⟩ := YB.out.at_ hs
      obtain ⟨ga, c1', e1, hra⟩ := XA.out.at_ Sv.len hva (by decide)
      obtain ⟨gb, c2', e2, hrb⟩ := XB.out.at_ Sv.len hvb (by decide)
      have f1 : Ba = some ⟨ga, 0, none⟩ := by injection e1
      have f2 : Bb = some ⟨gb, 0, none⟩ := by injection e2
      clear e1 e2
      subst f1
      subst f2
      obtain ⟨ka, a1, a2, a3, a4, B1, n1, c1, rfl⟩ := hRa.shapeR
      obtain ⟨kb, b1, b2, b3, b4, B2, n2, c2, rfl⟩ := hRb.shapeR
      have HRA := Lib.hid hra
      have HRB := Lib.hid hrb
      have SA := Lib.hid hRa
      have SB := Lib.hid hRb
      have QA := Lib.hid (HRA.out _ (H.out.hld HA.out))
      clear hs hva hvb hra hrb hRa hRb
      go_wp2_with (first
          | go_skip
          | ((with_reducible refine isLoad ?_); first | refine ldX (cs := Sv.cells ⟨ka, a1, a2, a3, a4, .slice B1 n1 c1⟩) QA ?_ (hT := rStm8) | refine ldX (cs := Sv.cells ⟨kb, b1, b2, b3, b4, .slice B2 n2 c2⟩) QB ?_ (hT := rStm8) | refine ldA H ?_ (hT := rStm8))
          | ((with_reducible refine isAlloc ?_); refine alA H ?_ (hz := zStm8); clear H; intro _ _ H)
          | ((with_reducible refine isStore ?_); refine stA H ?_ (hT := rStm8); clear H; intro _ H; (try clear QB); have QB := Lib.hid (HRB.out _ (H.out.hld (fun x hx => .tail _ (by first | exact HB.out x hx | exact .tail _ (HB.out x hx)))))))
      go_at_call 37
      have hcall := HC.out w0 _ _ Ea Eb s ⟨ka, a1, a2, a3, a4, .slice B1 n1 c1⟩ ⟨kb, b1, b2, b3, b4, .slice B2 n2 c2⟩ H (Lib.hid (fun x hx => .tail _ (.tail _ (HA.out x hx)))) (Lib.hid (fun x hx => .tail _ (.tail _ (HB.out x hx)))) SA SB
      clear H SA SB QA QB
      refine hcall.mono ?_
      clear hcall
      rintro _ _ ⟨rfl, hH⟩
      have H := Lib.hid hH.drop.drop
      clear hH
      go_wp2_with (first
          | go_skip)
      go_roundw
      case rel => first | exact ⟨j + 1, by go_num, by omega, H⟩ | (trace_state; fail)
      case measure => simp [intOf]; omega
    · go_wp2_with (first
          | go_skip)
      go_ret
      exact ⟨rfl, H.out⟩
set_option maxHeartbeats 4000000 in
theorem sal_of (d : Nat) (hC : EqsC d) : SalC d := by
  have HC := Lib.hid hC
  clear hC
  intro w0 w m Ea Eb l x y H HA HB RA RB
  go_enter Tryz.func22, Tryz.ntmps22
  go_wp2_with (first
    | go_skip
    | (go_at_call 36; refine (HC.out w0 _ _ Ea Eb l x y H HA HB RA RB).mono ?_; rintro _ _ ⟨rfl, hH⟩; replace H := Lib.hid hH; clear hH))
  go_ret
  exact ⟨rfl, H.out⟩
set_option maxHeartbeats 4000000 in
theorem eqb_of (d : Nat) (hC : SalC d) : EqbC d := by
  have HC := Lib.hid hC
  clear hC
  intro w0 w m Ea Eb l x y H HA HB RA RB
  obtain ⟨us, ra, ra2⟩ := RA.out
  obtain ⟨vs, rb, rb2⟩ := RB.out
  obtain ⟨n, hn⟩ : ∃ n, l.length = n := ⟨_, rfl⟩
  have ha : us.length = n := ra2.1.symm.trans hn
  have hb : vs.length = n := rb2.1.symm.trans hn
  rw [ha] at ra
  rw [hb] at rb
  obtain ⟨Ba, ca, rfl, _⟩ := ra.shape
  obtain ⟨Bb, cb, rfl, _⟩ := rb.shape
  have hle := ra.le
  have XA := Lib.hid ra
  have XB := Lib.hid rb
  have YA := Lib.hid ra2
  have YB := Lib.hid rb2
  have HL := Lib.hid hn
  have HLA := Lib.hid ha
  have HLB := Lib.hid hb
  clear ra rb ra2 rb2 hn ha hb RA RB
  go_enter Tryz.func56, Tryz.ntmps56
  go_wp2_with (first
      | go_skip)
  go_loopw [17] (fun i_ wr => ∃ j : Nat, i_ = .int .i64 j ∧ j ≤ n ∧ Hid (Hp w0 wr m)) (fun i_ _ => n - (intOf i_).toNat)
  case atStart => exact ⟨0, rfl, by omega, H⟩
  case round =>
    clear H
    obtain ⟨j, rfl, hj, H⟩ := hrel
    by_cases hlt : j < n
    · obtain ⟨s, hs⟩ : ∃ s, l[j]? = some s := ⟨_, List.getElem?_eq_getElem (by rw [HL.out]; exact hlt)⟩
      obtain ⟨va, hva, hRa⟩ := YA.out.at_ hs
      obtain ⟨vb, hvb, hRb⟩ := YB.out.at_ hs
      obtain ⟨ga, c1', e1, hra⟩ := XA.out.at_ one_len hva (by decide)
      obtain ⟨gb, c2', e2, hrb⟩ := XB.out.at_ one_len hvb (by decide)
      have f1 : Ba = some ⟨ga, 0, none⟩ := by injection e1
      have f2 : Bb = some ⟨gb, 0, none⟩ := by injection e2
      clear e1 e2
      subst f1
      subst f2
      obtain ⟨B1, n1, c1, rfl⟩ := hRa.shapeR
      obtain ⟨B2, n2, c2, rfl⟩ := hRb.shapeR
      have HRB := Lib.hid (fun w hw => rangeAt_one (hrb w hw))
      have SA := Lib.hid hRa
      have SB := Lib.hid hRb
      have QA := Lib.hid (rangeAt_one (hra _ (H.out.hld HA.out)))
      have QB := Lib.hid (rangeAt_one (hrb _ (H.out.hld HB.out)))
      simp only [Nat.mul_one] at QA QB
      clear hs hva hvb hra hrb hRa hRb
      go_wp2_with (first
          | go_skip
          | ((with_reducible refine isLoad ?_); first | refine ld1X QA ?_ (hT := kStlS) | refine ld1X QB ?_ (hT := kStlS)))
      go_at_call 22
      have hcall := HC.out w0 _ _ Ea Eb s (.slice B1 n1 c1) (.slice B2 n2 c2) H HA HB SA SB
      clear H SA SB QA QB
      refine hcall.mono ?_
      clear hcall
      rintro _ _ ⟨rfl, hH⟩
      have H := Lib.hid hH
      clear hH
      go_wp2_with (first
          | go_skip)
      go_roundw
      case rel => first | exact ⟨j + 1, by go_num, by omega, H⟩ | (trace_state; fail)
      case measure => simp [intOf]; omega
    · go_wp2_with (first
          | go_skip)
      go_ret
      exact ⟨rfl, H.out⟩
set_option maxHeartbeats 4000000 in
theorem sam_of (d : Nat) (hC : EqbC d) : SamC (d + 1) := by
  have HC := Lib.hid hC
  clear hC
  intro w0 w m Ea Eb s va vb H HA HB RA RB
  obtain ⟨ka, a1, a2, a3, a4, B1, n1, c1, rfl⟩ := RA.out.shapeR
  obtain ⟨kb, b1, b2, b3, b4, B2, n2, c2, rfl⟩ := RB.out.shapeR
  obtain ⟨_, p1, p2, p3, p4, p5, bv1, p6, p7⟩ := RA.out
  obtain ⟨_, q1, q2, q3, q4, q5, bv2, q6, q7⟩ := RB.out
  simp only at p1 p2 p3 p4 p5 q1 q2 q3 q4 q5
  have WA : Hid (RBs Ea d s.bl (.slice B1 n1 c1)) := Lib.hid ⟨bv1, p6, p7⟩
  have WB : Hid (RBs Eb d s.bl (.slice B2 n2 c2)) := Lib.hid ⟨bv2, q6, q7⟩
  obtain rfl : ka = kb := p1.trans q1.symm
  obtain rfl : a1 = b1 := p2.trans q2.symm
  obtain rfl : a2 = b2 := p3.trans q3.symm
  obtain rfl : a3 = b3 := p4.trans q4.symm
  obtain rfl : a4 = b4 := p5.trans q5.symm
  clear p1 p2 p3 p4 p5 q1 q2 q3 q4 q5 p6 p7 q6 q7 RA RB
  unfold Sv.cells
  go_enter Tryz.func37, Tryz.ntmps37
  go_wp2_with (first
      | go_skip
      | ((with_reducible refine isBox ?_); refine bxA (t := 86) H ?_; clear H; intro _ _ H)
      | ((with_reducible refine isLoad ?_); first | refine ldA H ?_ (hT := rRat) | refine ld1A H ?_ (hT := by first | exact kInt | exact kStr | exact kBllR))
      | (go_at_call 56; refine (HC.out w0 _ _ Ea Eb s.bl (.slice B1 n1 c1) (.slice B2 n2 c2) H (Lib.hid (fun x hx => .tail _ (.tail _ (HA.out x hx)))) (Lib.hid (fun x hx => .tail _ (.tail _ (HB.out x hx)))) WA WB).mono ?_; rintro _ _ ⟨rfl, hH⟩; replace H := Lib.hid hH; clear hH))
  go_ret
  exact ⟨rfl, H.out.drop.drop⟩
theorem sam_any : ∀ d, SamC d
  | 0 => fun _ _ _ _ _ _ _ _ _ _ _ h _ => h.out.elim
  | d + 1 => sam_of d (eqb_of d (sal_of d (eqs_of d (sam_any d))))
theorem sal_any (d : Nat) : SalC d := sal_of d (eqs_of d (sam_any d))
set_option maxHeartbeats 4000000 in
theorem Same_any (d : Nat) (w0 w : World) (m Ea Eb : Ents) (nm : ByteArray) (l : List Stm) (x y : Value) (H : Hid (Hp w0 w m)) (HA : Hid (∀ x ∈ Ea, x ∈ m)) (HB : Hid (∀ x ∈ Eb, x ∈ m)) (RA : Hid (RSs Ea d l x)) (RB : Hid (RSs Eb d l y)) : Calls Tryz.prog 10 #[.agg #[.string nm, x], .agg #[.string nm, y]] w fun e w' => e = .returned (.bool true) ∧ Hp w0 w' m := by
  obtain ⟨B1, n1, c1, rfl⟩ := RA.out.shapeR
  obtain ⟨B2, n2, c2, rfl⟩ := RB.out.shapeR
  go_enter Tryz.func10, Tryz.ntmps10
  go_wp2_with (first
      | go_skip
      | ((with_reducible refine isBox ?_); refine bxA (t := 25) H ?_; clear H; intro _ _ H)
      | ((with_reducible refine isLoad ?_); refine ld1A H ?_ (hT := by first | exact kStr | exact kStlS))
      | (go_at_call 22; refine (sal_any d w0 _ _ Ea Eb l (.slice B1 n1 c1) (.slice B2 n2 c2) H (Lib.hid (fun x hx => .tail _ (.tail _ (HA.out x hx)))) (Lib.hid (fun x hx => .tail _ (.tail _ (HB.out x hx)))) RA RB).mono ?_; rintro _ _ ⟨rfl, hH⟩; replace H := Lib.hid hH; clear hH))
  go_ret
  exact ⟨rfl, H.out.drop.drop⟩
end Go.Proofs.YtaiokjhjakdhaaaGreatDoor

namespace Go.Proofs.YtaiokjhjakdhaaaGreatDoor
open Go.RowKit
set_option linter.unusedVariables false
set_option maxRecDepth 100000

/-- The words of a job, joined. -/
def jobJ (nm : ByteArray) (l : List Stm) : List UInt8 := Lib.join ((⟨#[106, 111, 98]⟩ :: nm :: blW (prS 5) l).map (·.data.toList)) [32]
theorem jobT_tks {l l' : List UInt8} {ws vs : List Wd} (h1 : readS l = some ws) (h2 : readS l' = some vs) (h : SameW ws vs) : jobT l' = jobT l := by
  unfold jobT
  rw [h1, h2]
  unfold SameW at h
  have e : vs.map tkW = ws.map tkW := h.symm
  simp only [e]
theorem len_wsum : ∀ {ws : List Wd}, (∀ x ∈ ws, 0 < x.text.size) → ws.length ≤ wsum ws
  | [], _ => Nat.le_refl _
  | x :: r, h => by
    have h1 := h x (.head _)
    have h2 := len_wsum (ws := r) (fun y hy => h y (.tail _ hy))
    simp only [List.length_cons, wsum]
    omega
theorem good_pos {x : Wd} (h : GoodW x.kind x.t) : 0 < x.text.size := by
  obtain ⟨_, ⟨c, r, e, _⟩, _⟩ := h
  have : x.text.data.toList = c :: r := e
  rw [ba_size, this]
  simp
theorem read_again {s : ByteArray} {nm : ByteArray} {l : List Stm} (h : jobT s.data.toList = some (nm, l)) :
    checkE 5 nm l = 0 ∧ (∀ x ∈ l, PrOk 5 x) ∧ nm.size ≤ maxLen ∧ 2 + (blW (prS 5) l).length ≤ 4096 ∧ (jobJ nm l).length ≤ 100000 ∧ ((jobJ nm l).length ≤ 4096 → jobT (jobJ nm l) = some (nm, l)) := by
  have h0 := h
  unfold jobT at h
  split at h
  · cases h
  · rename_i ws hws
    split at h
    · cases h
    · rename_i nm' l' hj
      split at h
      · rename_i hc
        cases h
        obtain ⟨hp, hs4⟩ := placed_S hws
        have htk := words_ok hws
        have htk2 : ∀ x ∈ ws.map tkW, TkOk x := fun x hx => by
          obtain ⟨y, hy, rfl⟩ := List.mem_map.1 hx
          exact htk y hy
        obtain ⟨p1, p2⟩ := jobR_pr htk2 hj
        have ht := jobR_txs hj
        have hw : ws.map (·.text) = kJob :: nm :: blW (prS 5) l := by
          have e : txs (ws.map tkW) = ws.map (·.text) := by unfold txs tkW; rw [List.map_map]; rfl
          rw [← e, ht]
          rfl
        have hlen : ws.length = 2 + (blW (prS 5) l).length := by
          have := congrArg List.length hw
          simp only [List.length_map, List.length_cons] at this
          omega
        have hjj : jobJ nm l = Lib.join (ws.map (·.text.data.toList)) [32] := by
          unfold jobJ
          rw [show (⟨#[106, 111, 98]⟩ : ByteArray) = kJob from rfl, ← hw, List.map_map]
          rfl
        have hsum : wsum ws ≤ 4096 := by have := placed_sum hp (by omega); omega
        have hwl : ws.length ≤ 4096 := Nat.le_trans (len_wsum fun x hx => good_pos (readS_good hws x hx).1) hsum
        refine ⟨hc, p1, p2, by omega, ?_, fun hl => ?_⟩
        · have := joinL_len ws
          unfold joinL at this
          rw [hjj]
          omega
        · rw [hjj] at hl ⊢
          obtain ⟨vs, v1, v2⟩ := read_join (fun x hx => (readS_good hws x hx).1) hl
          rw [jobT_tks hws v1 v2]
          exact h0
      · cases h
set_option maxHeartbeats 8000000 in
theorem ParseSpaces_any (s : ByteArray) (w : World) (hs : s.size ≤ maxLen) (hT : Tb w) (hV : Vr w) :
    Calls Tryz.prog 4 #[.string s] w fun e w' => e = .returned (.bool true) ∧ Below w.heap.size w w' := by
  have H := Lib.hid (Hp.start hT)
  have VV := Lib.hid hV
  clear hT hV
  go_enter Tryz.func4, Tryz.ntmps4
  go_wp2_with fail
  go_at_call 8
  refine (pRead_any s w _ _ H VV hs).mono ?_
  intro e w1 hR
  unfold ReadP at hR
  cases hj : jobT s.data.toList with
  | none =>
    rw [hj] at hR
    obtain ⟨c, rfl, hc, hH⟩ := hR
    have H := Lib.hid hH
    have hcb : (c != 0) = true := bne_iff_ne.2 hc
    clear hH hj hc
    go_wp2_with (first
      | go_skip
      | ((with_reducible refine isAlloc ?_); refine alA H ?_ (hz := zJobR); clear H; intro q3 _ H)
      | ((with_reducible refine isStore ?_); refine stA H ?_ (hT := rJob); clear H; intro _ H)
      | (go_at_call 9; refine (parsed_any w _ _ H).mono ?_; rintro _ _ ⟨rfl, hH⟩; replace H := Lib.hid hH; clear hH))
    go_ret
    exact ⟨rfl, H.out.bel⟩
  | some p =>
    obtain ⟨nm, l⟩ := p
    rw [hj] at hR
    obtain ⟨x, E2, rfl, hRS, hH⟩ := hR
    obtain ⟨a1, a2, a3, a4, a5, a6⟩ := read_again hj
    obtain ⟨Bx, nx, cx, rfl⟩ := hRS.shapeR
    have H := Lib.hid hH
    have RS := Lib.hid hRS
    have HC := Lib.hid a1
    have HP := Lib.hid a2
    have HA6 := Lib.hid a6
    have HA5 := Lib.hid a5
    clear hH hRS hj a1 a2 a6 a5
    have HS : Hid (∀ (j : Nat) (y : Stm), l[j]? = some y → PrV E2 5 y (prS 5 y)) := Lib.hid fun j y hy => prV_all E2 5 y (HP.out y (List.mem_of_getElem? hy))
    obtain ⟨js, hjs⟩ : ∃ j : ByteArray, j = ⟨(jobJ nm l).toArray⟩ := ⟨_, rfl⟩
    have JS := Lib.hid hjs
    clear hjs
    go_wp2_with (first
      | go_skip
      | ((with_reducible refine isAlloc ?_); refine alA H ?_ (hz := zJobR); clear H; intro q3 _ H)
      | ((with_reducible refine isStore ?_); refine stA H ?_ (hT := rJob); clear H; intro _ H)
      | ((with_reducible refine isLoad ?_); refine ldA H ?_ (hT := rJob))
      | (go_at_call 9; refine (parsed_any w _ _ H).mono ?_; rintro _ _ ⟨rfl, hH⟩; replace H := Lib.hid hH; clear hH))
    go_at_call 7
    by_cases hl : (jobJ nm l).length ≤ 4096
    · have hcall := PrintV_ok E2 5 l (prS 5) nm js HS.out w _ _ _ H (Lib.hid (fun x hx => .tail _ (List.mem_append_left _ hx))) RS VV a3 HC (by omega) JS hl
      clear H
      refine hcall.mono ?_
      clear hcall
      rintro _ _ ⟨rfl, hH⟩
      have H := Lib.hid hH
      clear hH
      go_wp2_with fail
      go_at_call 8
      have hjsz : js.size ≤ maxLen := by
        rw [ba_size, JS.out]
        exact ml4 hl
      refine (pRead_any js w _ _ H VV hjsz).mono ?_
      intro e w1 hR
      unfold ReadP at hR
      have hj2 : jobT js.data.toList = some (nm, l) := by rw [JS.out]; exact HA6.out hl
      rw [hj2] at hR
      obtain ⟨x2, E3, rfl, hRS, hH⟩ := hR
      obtain ⟨By, ny, cy, rfl⟩ := hRS.shapeR
      have H2 := Lib.hid hH
      have RS2 := Lib.hid hRS
      clear hH hRS hj2 H
      have H := H2
      clear H2
      have HS2 : Hid (∀ (j : Nat) (y : Stm), l[j]? = some y → PrV E3 5 y (prS 5 y)) := Lib.hid fun j y hy => prV_all E3 5 y (HP.out y (List.mem_of_getElem? hy))
      go_wp2_with (first
        | go_skip
        | ((with_reducible refine isAlloc ?_); refine alA H ?_ (hz := zJobR); clear H; intro q6 _ H)
        | ((with_reducible refine isStore ?_); refine stA H ?_ (hT := rJob); clear H; intro _ H)
        | ((with_reducible refine isLoad ?_); refine ldA H ?_ (hT := rJob)))
      go_at_call 7
      have hcall := PrintV_ok E3 5 l (prS 5) nm js HS2.out w _ _ _ H (Lib.hid (fun x hx => .tail _ (List.mem_append_left _ hx))) RS2 VV a3 HC (by omega) JS hl
      clear H
      refine hcall.mono ?_
      clear hcall
      rintro _ _ ⟨rfl, hH⟩
      have H := Lib.hid hH
      clear hH
      have hjj := str_eq (s := js) rfl
      go_wp2_with (first
        | go_skip
        | ((with_reducible refine isLoad ?_); refine ldA H ?_ (hT := rJob) (hm := by first | exact .head _ | exact .tail _ (List.mem_append_right _ (.head _))))
        | (go_at_call 10; refine (Same_any 5 w _ _ E2 E3 nm l _ _ H (Lib.hid (fun x hx => .tail _ (List.mem_append_right _ (.tail _ (List.mem_append_left _ hx))))) (Lib.hid (fun x hx => .tail _ (List.mem_append_left _ hx))) RS RS2).mono ?_; rintro _ _ ⟨rfl, hH⟩; replace H := Lib.hid hH; clear hH))
      go_ret
      exact ⟨rfl, H.out.bel⟩
    · have hcall := PrintV_big E2 5 l (prS 5) nm js HS.out w _ _ _ H (Lib.hid (fun x hx => .tail _ (List.mem_append_left _ hx))) RS VV a3 HC (by omega) JS HA5.out hl
      clear H
      refine hcall.mono ?_
      clear hcall
      rintro _ _ ⟨rfl, hH⟩
      have H := Lib.hid hH
      clear hH
      go_wp2_with fail
      go_ret
      exact ⟨rfl, H.out.bel⟩
end Go.Proofs.YtaiokjhjakdhaaaGreatDoor

namespace Go.Proofs.YtaiokjhjakdhaaaGreatDoor
open Go.RowKit
set_option linter.unusedVariables false
set_option maxRecDepth 100000

def kd (t : ByteArray) : Nat := wKind t.data.toList
def tok (t : ByteArray) : Tk := (kd t, t)
def toks (us : List ByteArray) : List Tk := us.map tok
theorem toks_app (a b : List ByteArray) : toks (a ++ b) = toks a ++ toks b := List.map_append
theorem tk_eq (x : ByteArray) (r : List Tk) : takR x (tok x :: r) = some r := by
  show (if eqS x x = true then some r else none) = some r
  exact if_pos (eqS_iff.2 rfl)
theorem tk_ne {x y : ByteArray} (r : List Tk) (h : eqS y x = false) : takR x (tok y :: r) = none := by
  show (if eqS y x = true then some r else none) = none
  exact if_neg (by rw [h]; decide)
def nameOk (a : ByteArray) : Bool := kd a == 1 && !memS a kws
theorem nm_tok {a : ByteArray} (r : List Tk) (h : nameOk a = true) : nmeR (tok a :: r) = some (a, r) := by
  unfold nameOk at h
  simp only [Bool.and_eq_true, beq_iff_eq, Bool.not_eq_true'] at h
  simp only [nmeR, tok, h.1, h.2, if_pos]
  rfl
theorem parts_ok : ∀ a ∈ partN, nameOk a = true := by decide +kernel
theorem slots_ok : ∀ a ∈ slotN, nameOk a = true := by decide +kernel
theorem arms_ok : ∀ a ∈ armN, nameOk a = true := by decide +kernel
theorem dec1 {n : Nat} (h : n < 10) : Lib.decDigits n = [UInt8.ofNat (48 + n)] := by rw [Lib.decDigits, dif_pos h]
theorem num1 {n : Nat} (h : n < 10) : numT n = ⟨#[UInt8.ofNat (48 + n)]⟩ := by
  unfold numT Lib.itoa
  rw [if_neg (by omega), Int.toNat_natCast, dec1 h]
theorem cnt_tok (n : Int) (r : List Tk) (h1 : 1 ≤ n) (h3 : n ≤ 3) : cntR (tok (numT n) :: r) = some (n, r) := by
  have e : intT (numT n) = some n ∧ kd (numT n) = 2 := by
    rcases (by omega : n = 1 ∨ n = 2 ∨ n = 3) with rfl | rfl | rfl
    · rw [show numT 1 = _ from num1 (n := 1) (by decide)]; decide +kernel
    · rw [show numT 2 = _ from num1 (n := 2) (by decide)]; decide +kernel
    · rw [show numT 3 = _ from num1 (n := 3) (by decide)]; decide +kernel
  simp only [cntR, tok, e.1, e.2, if_pos]
  rw [if_pos (eqS_iff.2 rfl)]
theorem rt_q {q : Nat} (h1 : 4 ≤ q) (h2 : q ≤ 8) : ratT2 (ofQ 1 q) = ⟨#[49, 47, UInt8.ofNat (48 + q)]⟩ := by
  have e : (ofQ 1 q).num = 1 ∧ (ofQ 1 q).den = q := by
    rcases (show q = 4 ∨ q = 5 ∨ q = 6 ∨ q = 7 ∨ q = 8 by omega) with rfl | rfl | rfl | rfl | rfl <;> decide +kernel
  unfold ratT2
  rw [e.1, e.2, if_neg (by omega), show (1 : Int).natAbs = 1 from rfl, dec1 (by decide), dec1 (by omega)]
  rfl
theorem wth_tok {q : Nat} (r : List Tk) (h1 : 4 ≤ q) (h2 : q ≤ 8) : wthR (tok (ratT2 (ofQ 1 q)) :: r) = some (ofQ 1 q, r) := by
  have e : ratR (ratT2 (ofQ 1 q)) = some (ofQ 1 q) ∧ kd (ratT2 (ofQ 1 q)) = 2 := by
    rw [rt_q h1 h2]
    rcases (show q = 4 ∨ q = 5 ∨ q = 6 ∨ q = 7 ∨ q = 8 by omega) with rfl | rfl | rfl | rfl | rfl <;> decide +kernel
  simp only [wthR, tok, e.1, e.2, if_pos]
  rw [if_pos (eqS_iff.2 rfl)]
theorem len2 {α : Type} {l : List α} (h : l.length = 2) : ∃ a b, l = [a, b] := by
  match l, h with
  | [a, b], _ => exact ⟨a, b, rfl⟩
theorem Stm.eta (s : Stm) : s = .mk s.k s.a s.b s.wd s.n s.bl := by cases s; rfl
theorem leaf_back {na np ns : Nat} {s : Stm} (h : Leaf na np ns s) (left : Int) (r : List Tk) : leafB left (toks (headW s) ++ r) = .ok s left r := by
  rw [Stm.eta s]
  unfold leafB
  rcases h with ⟨hk, ha, hb, hw, hn, hbl⟩ | ⟨hk, ha, hb, hw, hn, hbl⟩ | ⟨hk, ha, hb, hw, hn, hbl⟩ | ⟨hk, ha, hb, hw, hn, hbl⟩ | ⟨hk, ha, hb, hw, hn, hbl⟩
  · have na_ := parts_ok _ (List.mem_of_mem_take ha)
    have nb_ := slots_ok _ (List.mem_of_mem_take hb)
    rw [hk, hn, hbl]
    rcases hw with hw | ⟨q, q1, q2, hw⟩
    · rw [hw]
      have : plnR (toks (headW (.mk 1 s.a s.b none 0 [])) ++ r) = some (.mk 1 s.a s.b none 0 [], tok kSemi :: r) := by
        show plnR (tok kPut :: tok s.a :: tok kIn :: tok s.b :: tok kSemi :: r) = _
        unfold plnR putR
        simp only [tk_eq, nm_tok _ na_, nm_tok _ nb_, tk_ne (x := kWithin) (y := kSemi) _ (by decide +kernel)]
      simp only [this, tk_eq]
    · rw [hw]
      have : plnR (toks (headW (.mk 1 s.a s.b (some (ofQ 1 q)) 0 [])) ++ r) = some (.mk 1 s.a s.b (some (ofQ 1 q)) 0 [], tok kSemi :: r) := by
        show plnR (tok kPut :: tok s.a :: tok kIn :: tok s.b :: tok kWithin :: tok (ratT2 (ofQ 1 q)) :: tok kSemi :: r) = _
        unfold plnR putR
        simp only [tk_eq, nm_tok _ na_, nm_tok _ nb_, wth_tok _ q1 q2]
      simp only [this, tk_eq]
  · have na_ := parts_ok _ (List.mem_of_mem_take ha)
    have nb_ := arms_ok _ (List.mem_of_mem_take hb)
    rw [hk, hn, hbl, hw]
    have : plnR (toks (headW (.mk 2 s.a s.b none 0 [])) ++ r) = some (.mk 2 s.a s.b none 0 [], tok kSemi :: r) := by
      show plnR (tok kHold :: tok s.a :: tok kWith :: tok s.b :: tok kSemi :: r) = _
      unfold plnR hldR
      simp only [tk_eq, nm_tok _ na_, nm_tok _ nb_, tk_ne (x := kPut) (y := kHold) _ (by decide +kernel)]
    simp only [this, tk_eq]
  · have na_ := arms_ok _ (List.mem_of_mem_take ha)
    rw [hk, hn, hbl, hw, hb]
    have : plnR (toks (headW (.mk 3 s.a ⟨#[]⟩ none 0 [])) ++ r) = some (.mk 3 s.a ⟨#[]⟩ none 0 [], tok kSemi :: r) := by
      show plnR (tok kFree :: tok s.a :: tok kSemi :: r) = _
      unfold plnR oneR
      simp only [tk_eq, nm_tok _ na_, tk_ne (x := kPut) (y := kFree) _ (by decide +kernel), tk_ne (x := kHold) (y := kFree) _ (by decide +kernel)]
      rfl
    simp only [this, tk_eq]
  · have na_ := parts_ok _ (List.mem_of_mem_take ha)
    rw [hk, hn, hbl, hw, hb]
    have : plnR (toks (headW (.mk 4 s.a ⟨#[]⟩ none 0 [])) ++ r) = some (.mk 4 s.a ⟨#[]⟩ none 0 [], tok kSemi :: r) := by
      show plnR (tok kSee :: tok s.a :: tok kSemi :: r) = _
      unfold plnR oneR
      simp only [tk_eq, nm_tok _ na_, tk_ne (x := kPut) (y := kSee) _ (by decide +kernel), tk_ne (x := kHold) (y := kSee) _ (by decide +kernel), tk_ne (x := kFree) (y := kSee) _ (by decide +kernel)]
      rfl
    simp only [this, tk_eq]
  · rw [hk, hbl, hw, hb, ha]
    have : plnR (toks (headW (.mk 5 ⟨#[]⟩ ⟨#[]⟩ none s.n [])) ++ r) = some (.mk 5 ⟨#[]⟩ ⟨#[]⟩ none s.n [], tok kSemi :: r) := by
      show plnR (tok kWait :: tok (numT s.n) :: tok kSemi :: r) = _
      unfold plnR waiR
      simp only [tk_eq, cnt_tok s.n _ hn.1 hn.2, tk_ne (x := kPut) (y := kWait) _ (by decide +kernel), tk_ne (x := kHold) (y := kWait) _ (by decide +kernel), tk_ne (x := kFree) (y := kWait) _ (by decide +kernel), tk_ne (x := kSee) (y := kWait) _ (by decide +kernel)]
      rfl
    simp only [this, tk_eq]
/-- The words that statements begin with. -/
def hdK : List ByteArray := [kPut, kHold, kFree, kSee, kWait, kDo, kRep, kAny, kTry]
theorem hd_W (s : Stm) : ∃ h t, headW s = h :: t ∧ h ∈ hdK := by
  unfold headW putW
  split
  · cases s.wd <;> exact ⟨_, _, rfl, by simp [hdK]⟩
  · repeat' split
    all_goals exact ⟨_, _, rfl, by simp [hdK]⟩
theorem hd_beg : ∀ h ∈ hdK, (memS h kws && !memS h kwWithin) = true := by decide +kernel
theorem hd_shut : ∀ h ∈ hdK, eqS h kShut = false := by decide +kernel
theorem hd_or : ∀ h ∈ hdK, eqS h kOr = false := by decide +kernel
theorem prS_hd (d : Nat) (s : Stm) : ∃ h t, prS (d + 1) s = h :: t ∧ h ∈ hdK := by
  obtain ⟨h, t, e, hm⟩ := hd_W s
  exact ⟨h, _, by unfold prS; rw [e, List.cons_append], hm⟩
theorem prS_shut (d : Nat) (s : Stm) (r : List Tk) : takR kShut (toks (prS (d + 1) s) ++ r) = none := by
  obtain ⟨h, t, e, hm⟩ := prS_hd d s
  rw [e]
  exact tk_ne _ (hd_shut h hm)
theorem prS_or (d : Nat) (s : Stm) (r : List Tk) : takR kOr (toks (prS (d + 1) s) ++ r) = none := by
  obtain ⟨h, t, e, hm⟩ := prS_hd d s
  rw [e]
  exact tk_ne _ (hd_or h hm)
/-- f reads what g prints of s, and takes c of what may be read. -/
def Bk (f : FS) (g : Stm → List ByteArray) (c : Int) (s : Stm) : Prop := ∀ left r, c ≤ left → takR kOr r = none → f left (toks (g s) ++ r) = .ok s (left - c) r
theorem or_shut (r : List Tk) : takR kOr (tok kShut :: r) = none := tk_ne _ (by decide +kernel)
theorem lopR_back {f : FS} {g : Stm → List ByteArray} {B : Int} (hB : 0 ≤ B) : ∀ (l : List Stm), (∀ s ∈ l, ∃ c, 1 ≤ c ∧ c ≤ B ∧ Bk f g c s) → (∀ s ∈ l, ∀ r, takR kShut (toks (g s) ++ r) = none ∧ takR kOr (toks (g s) ++ r) = none) →
    ∃ c, 0 ≤ c ∧ c ≤ l.length * B ∧ ∀ n left r, l.length < n → c ≤ left → lopR f n left (toks (l.flatMap g) ++ tok kShut :: r) = .ok l (left - c) r
  | [], _, _ => ⟨0, by decide, by simp, fun n left r hn hl => by
    obtain ⟨n, rfl⟩ : ∃ k, n = k + 1 := ⟨n - 1, by simp at hn; omega⟩
    unfold lopR
    simp [toks, tk_eq]⟩
  | s :: l, hf, hh => by
    obtain ⟨c1, a1, a2, a3⟩ := hf s (.head _)
    obtain ⟨c2, b1, b2, b3⟩ := lopR_back hB l (fun x hx => hf x (.tail _ hx)) (fun x hx => hh x (.tail _ hx))
    refine ⟨c1 + c2, by omega, ?_, fun n left r hn hl => ?_⟩
    · have e : ((l.length + 1 : Nat) : Int) * B = l.length * B + B := by rw [Int.natCast_add, Int.add_mul]; simp
      rw [List.length_cons, e]
      omega
    · obtain ⟨n, rfl⟩ : ∃ k, n = k + 1 := ⟨n - 1, by simp at hn; omega⟩
      simp only [List.length_cons] at hn
      rw [List.flatMap_cons, toks_app, List.append_assoc]
      have hor : takR kOr (toks (l.flatMap g) ++ tok kShut :: r) = none := by
        cases l with
        | nil => exact or_shut r
        | cons x l =>
          rw [List.flatMap_cons, toks_app, List.append_assoc]
          exact (hh x (.tail _ (.head _)) _).2
      unfold lopR
      rw [(hh s (.head _) _).1, a3 left _ (by omega) hor]
      simp only [b3 n (left - c1) r (by omega) (by omega)]
      rw [show left - c1 - c2 = left - (c1 + c2) by omega]
theorem flat_ge {g : Stm → List ByteArray} : ∀ {l : List Stm}, (∀ s ∈ l, g s ≠ []) → l.length ≤ (l.flatMap g).length
  | [], _ => Nat.le_refl _
  | s :: l, h => by
    have h1 := List.length_pos_iff.2 (h s (.head _))
    have h2 := flat_ge (l := l) (fun x hx => h x (.tail _ hx))
    rw [List.flatMap_cons, List.length_append, List.length_cons]
    omega
theorem blkR_back {f : FS} {d : Nat} {B : Int} (hB : 0 ≤ B) {l : List Stm} (hf : ∀ s ∈ l, ∃ c, 1 ≤ c ∧ c ≤ B ∧ Bk f (prS (d + 1)) c s) : ∃ c, 0 ≤ c ∧ c ≤ l.length * B ∧ ∀ left r, c ≤ left → blkR (some f) left (toks (listW (prS (d + 1)) l) ++ r) = .ok l (left - c) r := by
  obtain ⟨c, h1, h2, h3⟩ := lopR_back hB l hf (fun s _ r => ⟨prS_shut d s r, prS_or d s r⟩)
  refine ⟨c, h1, h2, fun left r hl => ?_⟩
  have e : toks (listW (prS (d + 1)) l) ++ r = tok kOpen :: (toks (l.flatMap (prS (d + 1))) ++ tok kShut :: r) := by
    unfold listW
    rw [toks_app, toks_app]
    simp [toks]
  rw [e]
  unfold blkR
  simp only [tk_eq]
  refine h3 _ left r ?_ hl
  have := flat_ge (g := prS (d + 1)) (l := l) (fun s _ => by obtain ⟨h, t, e, _⟩ := prS_hd d s; rw [e]; simp)
  simp only [toks, List.length_append, List.length_map, List.length_cons]
  omega
theorem bks1_back {f : FS} {d : Nat} {B : Int} (hB : 0 ≤ B) (x : ByteArray) {l : List Stm} (hf : ∀ s ∈ l, ∃ c, 1 ≤ c ∧ c ≤ B ∧ Bk f (prS (d + 1)) c s) : ∃ c, 0 ≤ c ∧ c ≤ l.length * B ∧ ∀ left r, c ≤ left → bksR (some f) x 1 left (toks (blsW (prS (d + 1)) kElse [l]) ++ r) = .ok [l] (left - c) r := by
  obtain ⟨c, h1, h2, h3⟩ := blkR_back hB hf
  refine ⟨c, h1, h2, fun left r hl => ?_⟩
  have e : blsW (prS (d + 1)) kElse [l] = listW (prS (d + 1)) l := by simp [blsW, moreW]
  rw [e]
  unfold bksR
  rw [h3 left r hl]
  rfl
theorem bks2_back {f : FS} {d : Nat} {B : Int} (hB : 0 ≤ B) (x : ByteArray) (k : Nat) (hk : 2 ≤ k) {l m : List Stm} (hf : ∀ s ∈ l, ∃ c, 1 ≤ c ∧ c ≤ B ∧ Bk f (prS (d + 1)) c s) (hg : ∀ s ∈ m, ∃ c, 1 ≤ c ∧ c ≤ B ∧ Bk f (prS (d + 1)) c s) : ∃ c, 0 ≤ c ∧ c ≤ l.length * B + m.length * B ∧ ∀ left r, c ≤ left → (k = 2 ∨ takR x r = none) → bksR (some f) x k left (toks (blsW (prS (d + 1)) x [l, m]) ++ r) = .ok [l, m] (left - c) r := by
  obtain ⟨c1, h1, h2, h3⟩ := blkR_back hB hf
  obtain ⟨c2, g1, g2, g3⟩ := blkR_back hB hg
  refine ⟨c1 + c2, by omega, by omega, fun left r hl hr => ?_⟩
  obtain ⟨k, rfl⟩ : ∃ j, k = j + 1 + 1 := ⟨k - 2, by omega⟩
  have e : toks (blsW (prS (d + 1)) x [l, m]) ++ r = toks (listW (prS (d + 1)) l) ++ (tok x :: (toks (listW (prS (d + 1)) m) ++ r)) := by
    simp [blsW, moreW, toks]
  rw [e]
  unfold bksR
  rw [h3 left _ (by omega)]
  simp only [if_neg (show ¬ k + 1 = 0 by omega), tk_eq]
  unfold bksR
  rw [g3 (left - c1) r (by omega), show left - c1 - c2 = left - (c1 + c2) by omega]
  simp only
  by_cases hk0 : k = 0
  · rw [if_pos hk0]
  · rw [if_neg hk0]
    rcases hr with hr | hr
    · omega
    · rw [hr]
/-- How many statements there are at most. -/
def stmX : Nat → Int
  | 0 => 0
  | d + 1 => 1 + 4 * stmX d
theorem stmX_nn : ∀ d, 0 ≤ stmX d
  | 0 => by decide
  | d + 1 => by have := stmX_nn d; unfold stmX; omega
theorem kn_beg {f : Option FS} {left : Int} {s : Stm} {u r : List Tk} (h : ∃ t, u = toks (headW s) ++ t) (hl : 1 ≤ left) : stmR f left u = kndR f (left - 1) u := by
  obtain ⟨t, rfl⟩ := h
  obtain ⟨x, y, e, hm⟩ := hd_W s
  rw [e]
  unfold stmR
  have : begR (toks (x :: y) ++ t) = true := hd_beg x hm
  rw [this, if_pos rfl, if_neg (by omega)]
theorem knd_leaf {na np ns : Nat} {f : Option FS} {s : Stm} (h : Leaf na np ns s) (left : Int) (r : List Tk) : kndR f left (toks (headW s) ++ r) = leafB left (toks (headW s) ++ r) := by
  have hd : ∃ x y, headW s = x :: y ∧ eqS x kDo = false ∧ eqS x kAny = false ∧ eqS x kRep = false ∧ eqS x kTry = false := by
    have hk := h.k
    unfold headW putW
    rcases (by omega : s.k = 1 ∨ s.k = 2 ∨ s.k = 3 ∨ s.k = 4 ∨ s.k = 5) with e | e | e | e | e
    · rw [if_pos e]
      cases s.wd <;> exact ⟨_, _, rfl, by decide +kernel⟩
    · rw [if_neg (by omega), if_pos e]; exact ⟨_, _, rfl, by decide +kernel⟩
    · rw [if_neg (by omega), if_neg (by omega), if_pos e]; exact ⟨_, _, rfl, by decide +kernel⟩
    · rw [if_neg (by omega), if_neg (by omega), if_neg (by omega), if_pos e]; exact ⟨_, _, rfl, by decide +kernel⟩
    · rw [if_neg (by omega), if_neg (by omega), if_neg (by omega), if_neg (by omega), if_pos e]; exact ⟨_, _, rfl, by decide +kernel⟩
  obtain ⟨x, y, e, e1, e2, e3, e4⟩ := hd
  rw [e]
  show kndR f left (tok x :: (toks y ++ r)) = leafB left (tok x :: (toks y ++ r))
  generalize toks y ++ r = u
  unfold kndR
  rw [tk_ne _ e1, tk_ne _ e2, tk_ne _ e3, tk_ne _ e4]
theorem fS_stm (D : Nat) : ∃ f, fS D = stmR f ∧ (1 ≤ D → ∃ D', D = D' + 1 ∧ f = some (fS D')) := by
  cases D with
  | zero => exact ⟨none, rfl, fun h => by omega⟩
  | succ D => exact ⟨_, rfl, fun _ => ⟨D, rfl, rfl⟩⟩
theorem fS_back {na np ns : Nat} : ∀ (d : Nat) (s : Stm), VSt na np ns d s → ∀ D, d ≤ D + 1 → ∃ c, 1 ≤ c ∧ c ≤ stmX d ∧ Bk (fS D) (prS (D + 1)) c s
  | 0, _, h, _, _ => h.elim
  | d + 1, s, h, D, hD => by
    have hM := stmX_nn d
    obtain ⟨f, hf, hf2⟩ := fS_stm D
    rcases h.cases with hl | ⟨ha, hb, hw, hB, hk⟩
    · refine ⟨1, by decide, by unfold stmX; omega, fun left r hl1 hr => ?_⟩
      have e : prS (D + 1) s = headW s := by
        unfold prS
        rw [hl.bl]
        simp [blsW]
      rw [e, hf, kn_beg (r := r) ⟨r, rfl⟩ hl1, knd_leaf hl, leaf_back hl]
    · have hd1 : 1 ≤ d := by
        rcases Nat.eq_zero_or_pos d with e | e
        · exfalso
          subst e
          have hne : s.bl ≠ [] := fun e => by rw [e] at hk; simp at hk
          obtain ⟨b, hb'⟩ := List.exists_mem_of_ne_nil _ hne
          obtain ⟨⟨l1, _⟩, hx⟩ := hB b hb'
          obtain ⟨y, hy⟩ := List.exists_mem_of_ne_nil b (by intro e; rw [e] at l1; simp at l1)
          exact hx y hy
        · exact e
      obtain ⟨D', rfl, rfl⟩ := hf2 (by omega)
      have ih : ∀ b ∈ s.bl, ∀ x ∈ b, ∃ c, 1 ≤ c ∧ c ≤ stmX d ∧ Bk (fS D') (prS (D' + 1)) c x := fun b hb' x hx => fS_back d x ((hB b hb').2 x hx) D' (by omega)
      have hbl : ∀ b ∈ s.bl, (b.length : Int) * stmX d ≤ 2 * stmX d := fun b hb' => Int.mul_le_mul_of_nonneg_right (by have := (hB b hb').1.2; omega) hM
      have es := Stm.eta s
      rw [ha, hb, hw] at es
      have epr : prS (D' + 1 + 1) s = headW s ++ blsW (prS (D' + 1)) (sepW s.k) s.bl := rfl
      rcases hk with ⟨hk, hn, hlen⟩ | ⟨hk, hn, hlen⟩ | ⟨hk, hn, hlen⟩ | ⟨hk, hn, hlen⟩
      · obtain ⟨b, hbb⟩ : ∃ b, s.bl = [b] := List.length_eq_one_iff.1 hlen
        rw [hbb] at ih hbl
        obtain ⟨c, c1, c2, c3⟩ := bks1_back hM noS (ih b (.head _))
        refine ⟨1 + c, by omega, by have := hbl b (.head _); unfold stmX; omega, fun left r hl1 hr => ?_⟩
        have eh : headW s = [kDo] := by unfold headW; rw [hk]; rfl
        rw [epr, toks_app, List.append_assoc, hf, kn_beg (r := r) ⟨_, rfl⟩ (by omega), eh, hk, hbb]
        show kndR _ _ (tok kDo :: (toks (blsW (prS (D' + 1)) kElse [b]) ++ r)) = _
        unfold kndR
        simp only [tk_eq]
        rw [c3 (left - 1) r (by omega), es, hk, hn, hbb, show left - 1 - c = left - (1 + c) by omega]
        rfl
      · obtain ⟨b, hbb⟩ : ∃ b, s.bl = [b] := List.length_eq_one_iff.1 hlen
        rw [hbb] at ih hbl
        obtain ⟨c, c1, c2, c3⟩ := bks1_back hM noS (ih b (.head _))
        refine ⟨1 + c, by omega, by have := hbl b (.head _); unfold stmX; omega, fun left r hl1 hr => ?_⟩
        have eh : headW s = [kRep, numT s.n] := by unfold headW; rw [hk]; rfl
        rw [epr, toks_app, List.append_assoc, hf, kn_beg (r := r) ⟨_, rfl⟩ (by omega), eh, hk, hbb]
        show kndR _ _ (tok kRep :: tok (numT s.n) :: (toks (blsW (prS (D' + 1)) kElse [b]) ++ r)) = _
        unfold kndR repB
        simp only [tk_eq, tk_ne (x := kDo) (y := kRep) _ (by decide +kernel), tk_ne (x := kAny) (y := kRep) _ (by decide +kernel), cnt_tok s.n _ hn.1 (by omega)]
        rw [c3 (left - 1) r (by omega), show left - 1 - c = left - (1 + c) by omega]
        conv => rhs; rw [es, hk, hbb]
        rfl
      · obtain ⟨b1, b2, hbb⟩ : ∃ b1 b2, s.bl = [b1, b2] := len2 hlen
        rw [hbb] at ih hbl
        obtain ⟨c, c1, c2, c3⟩ := bks2_back hM kOr 4 (by decide) (ih b1 (.head _)) (ih b2 (.tail _ (.head _)))
        refine ⟨1 + c, by omega, by have := hbl b1 (.head _); have := hbl b2 (.tail _ (.head _)); unfold stmX; omega, fun left r hl1 hr => ?_⟩
        have eh : headW s = [kAny] := by unfold headW; rw [hk]; rfl
        rw [epr, toks_app, List.append_assoc, hf, kn_beg (r := r) ⟨_, rfl⟩ (by omega), eh, hk, hbb]
        show kndR _ _ (tok kAny :: (toks (blsW (prS (D' + 1)) kOr [b1, b2]) ++ r)) = _
        unfold kndR
        simp only [tk_eq, tk_ne (x := kDo) (y := kAny) _ (by decide +kernel)]
        rw [c3 (left - 1) r (by omega) (.inr hr), es, hk, hn, hbb, show left - 1 - c = left - (1 + c) by omega]
        rfl
      · obtain ⟨b1, b2, hbb⟩ : ∃ b1 b2, s.bl = [b1, b2] := len2 hlen
        rw [hbb] at ih hbl
        obtain ⟨c, c1, c2, c3⟩ := bks2_back hM kElse 2 (by decide) (ih b1 (.head _)) (ih b2 (.tail _ (.head _)))
        refine ⟨1 + c, by omega, by have := hbl b1 (.head _); have := hbl b2 (.tail _ (.head _)); unfold stmX; omega, fun left r hl1 hr => ?_⟩
        have eh : headW s = [kTry] := by unfold headW; rw [hk]; rfl
        rw [epr, toks_app, List.append_assoc, hf, kn_beg (r := r) ⟨_, rfl⟩ (by omega), eh, hk, hbb]
        show kndR _ _ (tok kTry :: (toks (blsW (prS (D' + 1)) kElse [b1, b2]) ++ r)) = _
        unfold kndR
        simp only [tk_eq, tk_ne (x := kDo) (y := kTry) _ (by decide +kernel), tk_ne (x := kAny) (y := kTry) _ (by decide +kernel), tk_ne (x := kRep) (y := kTry) _ (by decide +kernel)]
        rw [c3 (left - 1) r (by omega) (.inl rfl), es, hk, hn, hbb, show left - 1 - c = left - (1 + c) by omega]
        rfl
end Go.Proofs.YtaiokjhjakdhaaaGreatDoor

namespace Go.Proofs.YtaiokjhjakdhaaaGreatDoor
open Go.RowKit
set_option linter.unusedVariables false
set_option maxRecDepth 100000

theorem RSt.up {E : Ents} : ∀ (d : Nat) {s : Stm} {v : Sv}, RSt E d s v → RSt E (d + 1) s v
  | 0, _, _, h => h.elim
  | d + 1, _, _, ⟨h0, h1, h2, h3, h4, h5, bvs, h6, h7⟩ => ⟨h0, h1, h2, h3, h4, h5, bvs, h6, h7.mono fun _ _ ⟨svs, g1, g2⟩ => ⟨svs, g1, g2.mono fun _ _ g => RSt.up d g⟩⟩
theorem RSs.up2 {E : Ents} {l : List Stm} {x : Value} (h : RSs E 3 l x) : RSs E 5 l x := by
  obtain ⟨svs, g1, g2⟩ := h
  exact ⟨svs, g1, g2.mono fun _ _ g => RSt.up 4 (RSt.up 3 g)⟩
theorem Leaf.ok {na np ns : Nat} {s : Stm} (h : Leaf na np ns s) (d : Nat) : PrOk (d + 1) s := by
  rcases h with ⟨hk, ha, hb, hw, hn, hbl⟩ | ⟨hk, ha, hb, hw, hn, hbl⟩ | ⟨hk, ha, hb, hw, hn, hbl⟩ | ⟨hk, ha, hb, hw, hn, hbl⟩ | ⟨hk, ha, hb, hw, hn, hbl⟩
  · refine ⟨⟨by omega, by omega, pn_sz ha, sn_sz hb, ?_⟩, .inl ⟨hk, hbl, ?_⟩⟩
    · rcases hw with hw | ⟨q, q1, q2, hw⟩
      · rw [hw]; exact SmO.none
      · rw [hw]; exact ofq_sm q q1 q2
    · rcases hw with hw | ⟨q, q1, q2, hw⟩
      · exact .inl hw
      · refine .inr ⟨ofQ 1 q, hw, ?_⟩
        rcases (show q = 4 ∨ q = 5 ∨ q = 6 ∨ q = 7 ∨ q = 8 by omega) with rfl | rfl | rfl | rfl | rfl <;> decide +kernel
  · exact ⟨⟨by omega, by omega, pn_sz ha, an_sz hb, by rw [hw]; exact SmO.none⟩, .inr (.inl ⟨hk, hbl⟩)⟩
  · exact ⟨⟨by omega, by omega, an_sz ha, by rw [hb]; exact empty_sz, by rw [hw]; exact SmO.none⟩, .inr (.inr (.inl ⟨hk, hbl⟩))⟩
  · exact ⟨⟨by omega, by omega, pn_sz ha, by rw [hb]; exact empty_sz, by rw [hw]; exact SmO.none⟩, .inr (.inr (.inr (.inl ⟨hk, hbl⟩)))⟩
  · exact ⟨⟨by omega, by omega, by rw [ha]; exact empty_sz, by rw [hb]; exact empty_sz, by rw [hw]; exact SmO.none⟩, .inr (.inr (.inr (.inr (.inl ⟨hk, hbl⟩))))⟩
theorem VSt.pr {na np ns : Nat} : ∀ (d : Nat) (s : Stm), VSt na np ns d s → ∀ D, d ≤ D → PrOk D s
  | 0, _, h, _, _ => h.elim
  | d + 1, s, h, D, hD => by
    obtain ⟨D, rfl⟩ : ∃ k, D = k + 1 := ⟨D - 1, by omega⟩
    rcases h.cases with hl | ⟨ha, hb, hw, hB, hk⟩
    · exact hl.ok D
    · have ih : ∀ b ∈ s.bl, ∀ x ∈ b, PrOk D x := fun b hb' x hx => VSt.pr d x ((hB b hb').2 x hx) D (by omega)
      refine ⟨⟨by omega, by omega, by rw [ha]; exact empty_sz, by rw [hb]; exact empty_sz, by rw [hw]; exact SmO.none⟩, .inr (.inr (.inr (.inr (.inr ⟨ih, ?_⟩))))⟩
      rcases hk with ⟨hk, _, hl⟩ | ⟨hk, _, hl⟩ | ⟨hk, _, hl⟩ | ⟨hk, _, hl⟩
      · exact .inl ⟨hk, by omega⟩
      · exact .inr (.inl ⟨hk, by omega⟩)
      · exact .inr (.inr (.inl hk))
      · exact .inr (.inr (.inr hk))
theorem stmtsP_congr {f g : Stm → Int × Int} : ∀ (l : List Stm) (sum : Int), (∀ s ∈ l, f s = g s) → stmtsP f l sum = stmtsP g l sum
  | [], _, _ => rfl
  | s :: r, sum, h => by
    unfold stmtsP
    rw [h s (.head _), stmtsP_congr r _ (fun x hx => h x (.tail _ hx))]
theorem blocksP_congr {f g : List Stm → Int × Int} (n : Int) : ∀ (l : List (List Stm)) (sum : Int), (∀ b ∈ l, f b = g b) → blocksP f n l sum = blocksP g n l sum
  | [], _, _ => rfl
  | b :: r, sum, h => by
    unfold blocksP
    rw [h b (.head _), blocksP_congr n r _ (fun x hx => h x (.tail _ hx))]
theorem wSt_up {na np ns : Nat} : ∀ (d : Nat) (s : Stm), VSt na np ns d s → ∀ D, d ≤ D → ∀ p, wSt D p s = wSt d p s
  | 0, _, h, _, _, _ => h.elim
  | d + 1, s, h, D, hD, p => by
    obtain ⟨D, rfl⟩ : ∃ k, D = k + 1 := ⟨D - 1, by omega⟩
    have e : blocksP (fun b => wSts (wSt D (p + 1)) (p + 1) b) s.n s.bl 1 = blocksP (fun b => wSts (wSt d (p + 1)) (p + 1) b) s.n s.bl 1 := by
      refine blocksP_congr _ _ _ fun b hb => ?_
      rcases h.cases with hl | ⟨_, _, _, hB, _⟩
      · rw [hl.bl] at hb; cases hb
      · unfold wSts
        rw [stmtsP_congr b 0 fun x hx => wSt_up d x ((hB b hb).2 x hx) D (by omega) (p + 1)]
    unfold wSt
    rw [e]
theorem VSs.check5 {na np ns : Nat} (hna : 1 ≤ na ∧ na ≤ 2) (hnp : 1 ≤ np ∧ np ≤ 2) (hns : 1 ≤ ns ∧ ns ≤ 2) {nm : ByteArray} (hn : nameB nm = true) {l : List Stm} (h : VSs na np ns 3 l) : checkE 5 nm l = 0 := by
  have h1 := (VSs.check hna hnp hns hn h).1
  rw [← h1]
  unfold checkE wSts
  rw [stmtsP_congr l 0 fun x hx => wSt_up 3 x (h.2 x hx) 5 (by decide) 1]
/-! The words of such a job -/
def numL : List ByteArray := [⟨#[49]⟩, ⟨#[50]⟩, ⟨#[51]⟩, ⟨#[49, 47, 52]⟩, ⟨#[49, 47, 53]⟩, ⟨#[49, 47, 54]⟩, ⟨#[49, 47, 55]⟩, ⟨#[49, 47, 56]⟩, kOpen, kShut, kSemi]
def aw (w : ByteArray) : Prop := w ∈ kws ∨ w ∈ partN ∨ w ∈ slotN ∨ w ∈ armN ∨ w ∈ numL
def goodB (w : ByteArray) : Bool := wKind w.data.toList != 0 && wLen w.data.toList == w.data.toList.length && w.data.toList.length ≤ 6
theorem aw_good {w : ByteArray} (h : aw w) : GoodW (kd w) w.data.toList ∧ w.size ≤ 6 := by
  have hg : goodB w = true := by
    rcases h with h | h | h | h | h
    · exact (show ∀ w ∈ kws, goodB w = true by decide +kernel) w h
    · exact (show ∀ w ∈ partN, goodB w = true by decide +kernel) w h
    · exact (show ∀ w ∈ slotN, goodB w = true by decide +kernel) w h
    · exact (show ∀ w ∈ armN, goodB w = true by decide +kernel) w h
    · exact (show ∀ w ∈ numL, goodB w = true by decide +kernel) w h
  unfold goodB at hg
  simp only [Bool.and_eq_true, bne_iff_ne, beq_iff_eq, decide_eq_true_eq] at hg
  obtain ⟨⟨h1, h2⟩, h3⟩ := hg
  have := (good_of_read _ h1).1
  rw [h2, List.take_length] at this
  exact ⟨this, by rw [ba_size]; exact h3⟩
theorem aw_kw {w : ByteArray} (h : memS w kws = true) : aw w := .inl (memS_iff.1 h)
theorem aw_num (n : Int) (h1 : 1 ≤ n) (h3 : n ≤ 3) : aw (numT n) := by
  refine .inr (.inr (.inr (.inr (memS_iff.1 ?_))))
  rcases (by omega : n = 1 ∨ n = 2 ∨ n = 3) with rfl | rfl | rfl
  · rw [show numT 1 = _ from num1 (n := 1) (by decide)]; decide +kernel
  · rw [show numT 2 = _ from num1 (n := 2) (by decide)]; decide +kernel
  · rw [show numT 3 = _ from num1 (n := 3) (by decide)]; decide +kernel
theorem aw_rat {q : Nat} (h1 : 4 ≤ q) (h2 : q ≤ 8) : aw (ratT2 (ofQ 1 q)) := by
  refine .inr (.inr (.inr (.inr (memS_iff.1 ?_))))
  rw [rt_q h1 h2]
  rcases (show q = 4 ∨ q = 5 ∨ q = 6 ∨ q = 7 ∨ q = 8 by omega) with rfl | rfl | rfl | rfl | rfl <;> decide +kernel
theorem aw_semi : aw kSemi := .inr (.inr (.inr (.inr (memS_iff.1 (by decide +kernel)))))
theorem aw_open : aw kOpen := .inr (.inr (.inr (.inr (memS_iff.1 (by decide +kernel)))))
theorem aw_shut : aw kShut := .inr (.inr (.inr (.inr (memS_iff.1 (by decide +kernel)))))
theorem all_cons {p : ByteArray → Prop} {x : ByteArray} {l : List ByteArray} (h1 : p x) (h2 : ∀ w ∈ l, p w) : ∀ w ∈ x :: l, p w := fun w hw => by
  rcases List.mem_cons.1 hw with rfl | hw
  · exact h1
  · exact h2 w hw
theorem all_nil {p : ByteArray → Prop} : ∀ w ∈ ([] : List ByteArray), p w := fun w hw => by cases hw
theorem leaf_aw {na np ns : Nat} {s : Stm} (h : Leaf na np ns s) : (∀ w ∈ headW s, aw w) ∧ (headW s).length ≤ 7 := by
  unfold headW putW
  rcases h with ⟨hk, ha, hb, hw, hn, hbl⟩ | ⟨hk, ha, hb, hw, hn, hbl⟩ | ⟨hk, ha, hb, hw, hn, hbl⟩ | ⟨hk, ha, hb, hw, hn, hbl⟩ | ⟨hk, ha, hb, hw, hn, hbl⟩
  · have pa : aw s.a := .inr (.inl (List.mem_of_mem_take ha))
    have pb : aw s.b := .inr (.inr (.inl (List.mem_of_mem_take hb)))
    rw [if_pos hk]
    rcases hw with hw | ⟨q, q1, q2, hw⟩
    · rw [hw]
      exact ⟨all_cons (aw_kw (by decide +kernel)) (all_cons pa (all_cons (aw_kw (by decide +kernel)) (all_cons pb (all_cons aw_semi all_nil)))), by simp⟩
    · rw [hw]
      exact ⟨all_cons (aw_kw (by decide +kernel)) (all_cons pa (all_cons (aw_kw (by decide +kernel)) (all_cons pb (all_cons (aw_kw (by decide +kernel)) (all_cons (aw_rat q1 q2) (all_cons aw_semi all_nil)))))), by simp⟩
  · rw [if_neg (by omega), if_pos hk]
    exact ⟨all_cons (aw_kw (by decide +kernel)) (all_cons (.inr (.inl (List.mem_of_mem_take ha))) (all_cons (aw_kw (by decide +kernel)) (all_cons (.inr (.inr (.inr (.inl (List.mem_of_mem_take hb))))) (all_cons aw_semi all_nil)))), by simp⟩
  · rw [if_neg (by omega), if_neg (by omega), if_pos hk]
    exact ⟨all_cons (aw_kw (by decide +kernel)) (all_cons (.inr (.inr (.inr (.inl (List.mem_of_mem_take ha))))) (all_cons aw_semi all_nil)), by simp⟩
  · rw [if_neg (by omega), if_neg (by omega), if_neg (by omega), if_pos hk]
    exact ⟨all_cons (aw_kw (by decide +kernel)) (all_cons (.inr (.inl (List.mem_of_mem_take ha))) (all_cons aw_semi all_nil)), by simp⟩
  · rw [if_neg (by omega), if_neg (by omega), if_neg (by omega), if_neg (by omega), if_pos hk]
    exact ⟨all_cons (aw_kw (by decide +kernel)) (all_cons (aw_num s.n hn.1 hn.2) (all_cons aw_semi all_nil)), by simp⟩
theorem listW_aw {g : Stm → List ByteArray} {M : Nat} {l : List Stm} (hl : l.length ≤ 2) (h : ∀ s ∈ l, (∀ w ∈ g s, aw w) ∧ (g s).length ≤ M) : (∀ w ∈ listW g l, aw w) ∧ (listW g l).length ≤ 2 + 2 * M := by
  refine ⟨fun w hw => ?_, ?_⟩
  · unfold listW at hw
    simp only [List.cons_append, List.nil_append, List.mem_cons, List.mem_append, List.mem_flatMap, List.not_mem_nil, or_false] at hw
    rcases hw with rfl | ⟨s, hs, hw⟩ | rfl
    · exact aw_open
    · exact (h s hs).1 w hw
    · exact aw_shut
  · have : (l.flatMap g).length ≤ 2 * M := by
      match l, hl with
      | [], _ => simp
      | [a], _ => have := (h a (.head _)).2; simp; omega
      | [a, b], _ => have := (h a (.head _)).2; have := (h b (.tail _ (.head _))).2; simp; omega
    unfold listW
    simp only [List.length_append, List.length_cons, List.length_nil]
    omega
def wlM : Nat → Nat
  | 0 => 0
  | d + 1 => 7 + 4 * wlM d
theorem prS_aw {na np ns : Nat} : ∀ (d : Nat) (s : Stm), VSt na np ns d s → ∀ D, d ≤ D + 1 → (∀ w ∈ prS (D + 1) s, aw w) ∧ (prS (D + 1) s).length ≤ wlM d
  | 0, _, h, _, _ => h.elim
  | d + 1, s, h, D, hD => by
    have e : prS (D + 1) s = headW s ++ blsW (prS D) (sepW s.k) s.bl := rfl
    rcases h.cases with hl | ⟨ha, hb, hw, hB, hk⟩
    · rw [e, hl.bl, show blsW (prS D) (sepW s.k) [] = [] from rfl, List.append_nil]
      obtain ⟨h1, h2⟩ := leaf_aw hl
      exact ⟨h1, by unfold wlM; omega⟩
    · have hB2 : ∀ b ∈ s.bl, (∀ w ∈ listW (prS D) b, aw w) ∧ (listW (prS D) b).length ≤ 2 + 2 * wlM d := fun b hb' => by
        obtain ⟨⟨l1, l2⟩, hx⟩ := hB b hb'
        have hd1 : 1 ≤ d := by
          rcases Nat.eq_zero_or_pos d with e | e
          · exfalso
            subst e
            obtain ⟨y, hy⟩ := List.exists_mem_of_ne_nil b (by intro e; rw [e] at l1; simp at l1)
            exact hx y hy
          · exact e
        obtain ⟨D', rfl⟩ : ∃ k, D = k + 1 := ⟨D - 1, by omega⟩
        exact listW_aw l2 fun x hx' => prS_aw d x (hx x hx') D' (by omega)
      have one : ∀ (u : List ByteArray) (sep : ByteArray) (b : List Stm), s.bl = [b] → (∀ w ∈ u, aw w) → u.length ≤ 2 → (∀ w ∈ u ++ blsW (prS D) sep s.bl, aw w) ∧ (u ++ blsW (prS D) sep s.bl).length ≤ wlM (d + 1) := fun u sep b hbb hu hul => by
        rw [hbb] at hB2 ⊢
        obtain ⟨g1, g2⟩ := hB2 b (.head _)
        rw [show blsW (prS D) sep [b] = listW (prS D) b by simp [blsW, moreW]]
        refine ⟨fun w hw => ?_, ?_⟩
        · rcases List.mem_append.1 hw with hw | hw
          · exact hu w hw
          · exact g1 w hw
        · rw [List.length_append]; unfold wlM; omega
      have two : ∀ (u : List ByteArray) (sep : ByteArray) (b c : List Stm), s.bl = [b, c] → (∀ w ∈ u, aw w) → u.length ≤ 2 → aw sep → (∀ w ∈ u ++ blsW (prS D) sep s.bl, aw w) ∧ (u ++ blsW (prS D) sep s.bl).length ≤ wlM (d + 1) := fun u sep b c hbb hu hul hs => by
        rw [hbb] at hB2 ⊢
        obtain ⟨g1, g2⟩ := hB2 b (.head _)
        obtain ⟨f1, f2⟩ := hB2 c (.tail _ (.head _))
        rw [show blsW (prS D) sep [b, c] = listW (prS D) b ++ sep :: listW (prS D) c by simp [blsW, moreW]]
        refine ⟨fun w hw => ?_, ?_⟩
        · rcases List.mem_append.1 hw with hw | hw
          · exact hu w hw
          · rcases List.mem_append.1 hw with hw | hw
            · exact g1 w hw
            · rcases List.mem_cons.1 hw with rfl | hw
              · exact hs
              · exact f1 w hw
        · simp only [List.length_append, List.length_cons]; unfold wlM; omega
      rw [e]
      rcases hk with ⟨hk, hn, hlen⟩ | ⟨hk, hn, hlen⟩ | ⟨hk, hn, hlen⟩ | ⟨hk, hn, hlen⟩
      · obtain ⟨b, hbb⟩ : ∃ b, s.bl = [b] := List.length_eq_one_iff.1 hlen
        rw [show headW s = [kDo] by unfold headW; rw [hk]; rfl]
        exact one _ _ b hbb (all_cons (aw_kw (by decide +kernel)) all_nil) (by simp)
      · obtain ⟨b, hbb⟩ : ∃ b, s.bl = [b] := List.length_eq_one_iff.1 hlen
        rw [show headW s = [kRep, numT s.n] by unfold headW; rw [hk]; rfl]
        exact one _ _ b hbb (all_cons (aw_kw (by decide +kernel)) (all_cons (aw_num s.n hn.1 (by omega)) all_nil)) (by simp)
      · obtain ⟨b1, b2, hbb⟩ := len2 hlen
        rw [show headW s = [kAny] by unfold headW; rw [hk]; rfl, hk]
        exact two _ _ b1 b2 hbb (all_cons (aw_kw (by decide +kernel)) all_nil) (by simp) (aw_kw (by decide +kernel))
      · obtain ⟨b1, b2, hbb⟩ := len2 hlen
        rw [show headW s = [kTry] by unfold headW; rw [hk]; rfl, hk]
        exact two _ _ b1 b2 hbb (all_cons (aw_kw (by decide +kernel)) all_nil) (by simp) (aw_kw (by decide +kernel))
def kTask : ByteArray := ⟨#[116, 97, 115, 107]⟩
def wdOf (t : ByteArray) : Wd := ⟨kd t, 0, t⟩
theorem wsum_map {us : List ByteArray} (h : ∀ w ∈ us, w.size ≤ 6) : wsum (us.map wdOf) ≤ 6 * us.length := by
  induction us with
  | nil => exact Nat.le_refl _
  | cons x us ih =>
    have h1 := h x (.head _)
    have h2 := ih (fun y hy => h y (.tail _ hy))
    simp only [List.map_cons, wsum, List.length_cons]
    show x.size + _ ≤ _
    omega
/-- Printed and read again. -/
theorem job_back {na np ns : Nat} (hna : 1 ≤ na ∧ na ≤ 2) (hnp : 1 ≤ np ∧ np ≤ 2) (hns : 1 ≤ ns ∧ ns ≤ 2) {l : List Stm} (h : VSs na np ns 3 l) : checkE 5 kTask l = 0 ∧ (∀ s ∈ l, PrOk 5 s) ∧ 2 + (blW (prS 5) l).length ≤ 4096 ∧ (jobJ kTask l).length ≤ 4096 ∧ jobT (jobJ kTask l) = some (kTask, l) := by
  have hc := VSs.check5 hna hnp hns (nm := kTask) (by decide +kernel) h
  have hp : ∀ s ∈ l, PrOk 5 s := fun s hs => VSt.pr 3 s (h.2 s hs) 5 (by decide)
  obtain ⟨w1, w2⟩ := listW_aw (g := prS 5) (M := wlM 3) h.1.2 fun s hs => prS_aw 3 s (h.2 s hs) 4 (by decide)
  have hM : wlM 3 = 147 := by decide
  rw [hM] at w2
  have hall : ∀ w ∈ jobW kTask l, GoodW (kd w) w.data.toList ∧ w.size ≤ 6 := by
    intro w hw
    unfold jobW at hw
    rcases List.mem_cons.1 hw with rfl | hw
    · exact aw_good (aw_kw (by decide +kernel))
    · rcases List.mem_cons.1 hw with rfl | hw
      · have h1 : wKind kTask.data.toList ≠ 0 := by decide +kernel
        have h2 : wLen kTask.data.toList = kTask.data.toList.length := by decide +kernel
        have := (good_of_read _ h1).1
        rw [h2, List.take_length] at this
        exact ⟨this, by decide⟩
      · exact aw_good (w1 w hw)
  have hlen : (jobW kTask l).length = 2 + (listW (prS 5) l).length := by unfold jobW; simp; omega
  have hjj : jobJ kTask l = Lib.join (((jobW kTask l).map wdOf).map (·.text.data.toList)) [32] := by
    rw [List.map_map]
    rfl
  have hjl : (jobJ kTask l).length ≤ 4096 := by
    have h1 := joinL_len ((jobW kTask l).map wdOf)
    have h2 := wsum_map (us := jobW kTask l) (fun w hw => (hall w hw).2)
    unfold joinL at h1
    rw [hjj]
    simp only [List.length_map] at h1
    omega
  have hlb : (blW (prS 5) l).length = (listW (prS 5) l).length := rfl
  refine ⟨hc, hp, by omega, hjl, ?_⟩
  obtain ⟨vs, v1, v2⟩ := read_join (ws := (jobW kTask l).map wdOf) (fun x hx => by
    obtain ⟨t, ht, rfl⟩ := List.mem_map.1 hx
    exact (hall t ht).1) (by rw [← hjj]; exact hjl)
  rw [← hjj] at v1
  have ht : vs.map tkW = toks (jobW kTask l) := by
    unfold SameW at v2
    have e : vs.map tkW = ((jobW kTask l).map wdOf).map (fun x => (x.kind, x.text)) := v2.symm
    rw [e, List.map_map]
    rfl
  have hb : ∀ s ∈ l, ∃ c, 1 ≤ c ∧ c ≤ stmX 3 ∧ Bk (fS 4) (prS (4 + 1)) c s := fun s hs => fS_back 3 s (h.2 s hs) 4 (by decide)
  obtain ⟨c, c1, c2, c3⟩ := blkR_back (stmX_nn 3) hb
  have hl2 : (l.length : Int) * stmX 3 ≤ 42 := by
    have e : stmX 3 = 21 := by decide
    rw [e]
    have := h.1.2
    omega
  have hj : jobR (toks (jobW kTask l)) = some (kTask, l) := by
    show jobR (tok kJob :: tok kTask :: toks (listW (prS 5) l)) = _
    unfold jobR
    simp only [tk_eq, nm_tok (a := kTask) _ (by decide +kernel)]
    have := c3 100 [] (by omega)
    rw [List.append_nil] at this
    rw [this]
    rfl
  unfold jobT
  rw [v1]
  simp only [ht, hj, hc, if_pos]
set_option maxHeartbeats 8000000 in
theorem ParseBack_any (A B : Option Addr) (n c n2 c2 : Nat) (xs : List Int) (S : Sd) (w : World) (hi : IntArg w A n c xs) (hS : Hid (S.ok w)) (hv : S.v = .slice B n2 c2) (hT : Tb w) (hV : Vr w) :
    Calls Tryz.prog 3 #[.slice A n c, .slice B n2 c2] w fun e w' => e = .returned (.bool true) ∧ Below w.heap.size w w' := by
  have VV := Lib.hid hV
  have HI := Lib.hid (Small_E A n c xs w hi hT)
  have HVS := Lib.hid hv
  clear hV hi hT hv
  go_enter Tryz.func3, Tryz.ntmps3
  go_wp2_with fail
  go_at_call 6
  refine HI.out.mono ?_
  rintro _ _ ⟨na, np, ns, cs, E0, rfl, hna, hnp, hns, hH, hWV⟩
  have H := Lib.hid hH
  have WV := Lib.hid hWV
  clear hH hWV HI
  go_wp2_with fail
  go_at_call 5
  have hcall := Job_any na np ns hna hnp hns w _ E0 E0 S cs H hS WV (Lib.hid (fun x hx => hx))
  rw [HVS.out] at hcall
  refine hcall.mono ?_
  clear hcall
  rintro _ _ ⟨x, l, E2, rfl, hH, hRS, hVS⟩
  obtain ⟨a1, a2, a4, a5, a6⟩ := job_back hna hnp hns hVS
  obtain ⟨Bx, nx, cx, rfl⟩ := hRS.shapeR
  have H2 := Lib.hid hH
  have RS := Lib.hid hRS.up2
  have HC := Lib.hid a1
  have HP := Lib.hid a2
  have HA6 := Lib.hid a6
  clear hH hRS a1 a2 a6 H hVS
  have H := H2
  clear H2
  have HS : Hid (∀ (j : Nat) (y : Stm), l[j]? = some y → PrV E2 5 y (prS 5 y)) := Lib.hid fun j y hy => prV_all E2 5 y (HP.out y (List.mem_of_getElem? hy))
  obtain ⟨js, hjs⟩ : ∃ j : ByteArray, j = ⟨(jobJ kTask l).toArray⟩ := ⟨_, rfl⟩
  have JS := Lib.hid hjs
  clear hjs
  go_wp2_with (first
    | go_skip
    | ((with_reducible refine isAlloc ?_); refine alA H ?_ (hz := zJobR); clear H; intro q3 _ H)
    | ((with_reducible refine isStore ?_); refine stA H ?_ (hT := rJob); clear H; intro _ H)
    | ((with_reducible refine isLoad ?_); refine ldA H ?_ (hT := rJob)))
  go_at_call 7
  have hcall := PrintV_ok E2 5 l (prS 5) kTask js HS.out w _ _ _ H (Lib.hid (fun x hx => .tail _ (List.mem_append_left _ hx))) RS VV (by decide) HC (by omega) JS a5
  clear H
  refine hcall.mono ?_
  clear hcall
  rintro _ _ ⟨rfl, hH⟩
  have H := Lib.hid hH
  clear hH
  go_wp2_with fail
  go_at_call 8
  have hjsz : js.size ≤ maxLen := by
    rw [ba_size, JS.out]
    exact ml4 a5
  refine (pRead_any js w _ _ H VV hjsz).mono ?_
  intro e w1 hR
  unfold ReadP at hR
  have hj2 : jobT js.data.toList = some (kTask, l) := by rw [JS.out]; exact HA6.out
  rw [hj2] at hR
  obtain ⟨x2, E3, rfl, hRS, hH⟩ := hR
  obtain ⟨By, ny, cy, rfl⟩ := hRS.shapeR
  have H2 := Lib.hid hH
  have RS2 := Lib.hid hRS
  clear hH hRS hj2 H
  have H := H2
  clear H2
  go_wp2_with (first
    | go_skip
    | ((with_reducible refine isAlloc ?_); refine alA H ?_ (hz := zJobR); clear H; intro q6 _ H)
    | ((with_reducible refine isStore ?_); refine stA H ?_ (hT := rJob); clear H; intro _ H)
    | ((with_reducible refine isLoad ?_); refine ldA H ?_ (hT := rJob) (hm := by first | exact .head _ | exact .tail _ (List.mem_append_right _ (.head _))))
    | (go_at_call 9; refine (parsed_any w _ _ H).mono ?_; rintro _ _ ⟨rfl, hH⟩; replace H := Lib.hid hH; clear hH)
    | (go_at_call 10; refine (Same_any 5 w _ _ E2 E3 kTask l _ _ H (Lib.hid (fun x hx => .tail _ (List.mem_append_right _ (.tail _ (List.mem_append_left _ hx))))) (Lib.hid (fun x hx => .tail _ (List.mem_append_left _ hx))) RS RS2).mono ?_; rintro _ _ ⟨rfl, hH⟩; replace H := Lib.hid hH; clear hH))
  go_ret
  exact ⟨rfl, H.out.bel⟩
end Go.Proofs.YtaiokjhjakdhaaaGreatDoor
