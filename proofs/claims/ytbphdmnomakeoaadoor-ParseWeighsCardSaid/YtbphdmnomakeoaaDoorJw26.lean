/- parse.Print. Printed by gen/weigh.py. · parsed. Printed by gen/weigh.py. -/
import Derived.Test.YtbphdmnomakeoaaDoorJw24
import Derived.Test.YtbphdmnomakeoaaDoorJw13
namespace Go.Proofs.YtbphdmnomakeoaaDoor
open Go.RowKit
set_option linter.unusedVariables false
set_option maxRecDepth 100000

theorem strs_at {us : List ByteArray} {j : Nat} {x : ByteArray} (h : us[j]? = some x) : (flat strV us)[j]? = some (.string x) := by
  induction us generalizing j with
  | nil => simp at h
  | cons y us ih =>
    cases j with
    | zero => simp at h; subst h; rfl
    | succ j => exact ih (by simpa using h)
theorem RowV.cells_ {v : Value} {n : Nat} {ws : List ByteArray} {cur : List Value} {w0 w : World} {X m : Ents} (R : RowV 1 v n (flat strV ws) cur) (H : Hp w0 w (X ++ (rowE v 9 cur ++ m))) (h0 : 0 < n) : ∃ g c, v = .slice (some ⟨g, 0, none⟩) n c ∧ g < w.heap.size ∧ n ≤ c ∧ ws.length = n ∧ ∀ (j : Nat) x, ws[j]? = some x → w.cell? ⟨g, 0 + j, none⟩ = some (.string x) := by
  have hl := R.len
  rw [strs_len, Nat.mul_one, Nat.mul_one] at hl
  rcases R.or_ with ⟨_, e⟩ | ⟨g, cap, rfl, h1, h2, h3, h4⟩
  · omega
  · have hb := (H.blk (g, 9, cur) (by simp [rowE])).2
    refine ⟨g, cap, rfl, hb.lt, h1, hl, fun j x hj => ?_⟩
    rw [Nat.zero_add, hb.cell]
    have := strs_at hj
    rw [← h4, List.getElem?_take] at this
    split at this
    · simpa using this
    · cases this
set_option maxHeartbeats 4000000 in
theorem Print_ok (E : Ents) (d : Nat) (l : List Stm) (f : Stm → List ByteArray) (nm js : ByteArray) (hS : ∀ (j : Nat) (s : Stm), l[j]? = some s → PrS E d s (f s)) (w0 w : World) (m : Ents) (x : Value) (H : Hid (Hp w0 w m)) (HE : Hid (∀ x ∈ E, x ∈ m)) (RS : Hid (RSs E d l x)) (hn : nm.size ≤ maxLen) (hc : Hid (checkE d nm l = 0)) (hb : 2 + (blW f l).length ≤ 100000)
    (J : Hid (js = ⟨(Lib.join ((⟨#[106, 111, 98]⟩ :: nm :: blW f l).map (·.data.toList)) [32]).toArray⟩)) (hl : (Lib.join ((⟨#[106, 111, 98]⟩ :: nm :: blW f l).map (·.data.toList)) [32]).length ≤ 4096) :
    Calls Tryd.prog 32 #[.agg #[.string nm, x]] w fun e w' => e = .returned (.tuple #[.string js, .int .i64 0]) ∧ Hp w0 w' m := by
  have hjs : Hid ((js.size : Int) ≤ 4096) := Lib.hid (by rw [J.out]; show ((List.toArray _).size : Int) ≤ 4096; rw [List.size_toArray]; omega)
  have hjd : Hid (decide ((4096 : Int) < js.size) = false) := Lib.hid (decide_eq_false (by have := hjs.out; omega))
  have HL := Lib.hid hl
  have HSS := Lib.hid hS
  clear hl hS hjs
  obtain ⟨B, c, rfl⟩ := RS.out.shape
  go_enter Tryd.func32, Tryd.ntmps32
  go_wp2_with (first
      | go_skip
      | ((with_reducible refine isLoad ?_); refine ldA H ?_ (hT := rJob))
      | ((with_reducible refine isLoad ?_); refine ld1A H ?_ (hT := by first | exact kInt | exact kStl | exact kBll | exact kStr | exact kStrs))
      | ((with_reducible refine isBox ?_); first | (refine bxA (t := 58) H ?_; clear H; intro qj _ H) | (refine bxA (t := 112) H ?_; clear H; intro bp _ H))
      | ((with_reducible refine isSlc ?_); first | (refine bsA 9 [.string ⟨#[106, 111, 98]⟩, .string nm] 2 H ?_; clear H; intro gz _ H)))
  go_at_call 20
  refine Calls.mono (Check_any d E nm l _ _ hn RS (Lib.hid (H.out.hld (fun x hx => .tail _ (HE.out x hx)))) H.out.tb) ?_
  rintro _ _ ⟨rfl, hB⟩
  replace H := Lib.hid (H.out.go hB)
  rw [hc.out]
  clear hB
  go_wp2_with (first
      | go_skip
      | ((with_reducible refine isLoad ?_); refine ldA H ?_ (hT := rJob))
      | ((with_reducible refine isLoad ?_); refine ld1A H ?_ (hT := by first | exact kInt | exact kStl | exact kBll | exact kStr | exact kStrs))
      | ((with_reducible refine isBox ?_); first | (refine bxA (t := 58) H ?_; clear H; intro qj _ H) | (refine bxA (t := 112) H ?_; clear H; intro bp _ H))
      | ((with_reducible refine isSlc ?_); first | (refine bsA 9 [.string ⟨#[106, 111, 98]⟩, .string nm] 2 H ?_; clear H; intro gz _ H)))
  go_at_call 42
  have H' := Lib.hid (H.out.perm (List.Perm.swap _ _ _))
  have hcall := put_any w0 _ _ bp gz (.slice none 0 0) 0 2 [] [⟨#[106, 111, 98]⟩, nm] [] H' (Lib.hid (RowV.nil 1)) (Lib.hid (.head _)) rfl (by decide) (by omega)
  clear H H'
  refine Calls.mono hcall ?_
  clear hcall
  rintro _ _ ⟨v2, cur2, rfl, hR, h2⟩
  obtain ⟨B2, c2, rfl, _⟩ := hR.shape
  have R := Lib.hid hR
  have H := Lib.hid (h2.perm roll3.symm)
  clear hR h2
  go_wp2_with (first
      | go_skip
      | ((with_reducible refine isLoad ?_); refine ld1A H ?_ (hT := by first | exact kInt | exact kStl | exact kBll | exact kStr | exact kStrs)))
  go_at_call 43
  have H' := Lib.hid (H.out.perm roll3)
  clear H
  have hcall := block_any E d l f HSS.out w0 _ _ bp _ _ _ _ cur2 H' R (Lib.hid (fun x hx => .tail _ (.tail _ (HE.out x hx)))) RS (by omega)
  clear H' R HSS
  refine Calls.mono hcall ?_
  clear hcall
  rintro _ _ ⟨v2, cur2, rfl, hR, h2⟩
  obtain ⟨g, c3, rfl, hg, hc3, hln, hcell⟩ := hR.cells_ (X := [(bp, 112, [v2])]) h2 (by omega)
  have H := Lib.hid h2
  have HC := Lib.hid hcell
  have HLN := Lib.hid hln
  clear hR h2 hcell hln
  go_wp2_with (first
      | go_skip
      | ((with_reducible refine isLoad ?_); refine ld1A H ?_ (hT := by first | exact kInt | exact kStl | exact kBll | exact kStr | exact kStrs)))
  go_at_call 44
  have hcall := Tryd.strings_Join g 0 c3 (⟨#[106, 111, 98]⟩ :: nm :: blW f l) ⟨#[32]⟩ _ HC.out hg (by rw [show (⟨#[106, 111, 98]⟩ :: nm :: blW f l).length = _ from HLN.out]; omega) (by rw [show (⟨#[106, 111, 98]⟩ :: nm :: blW f l).length = _ from HLN.out]; exact hc3) (by have := HL.out; simp only at this ⊢; omega)
  rw [show (⟨#[106, 111, 98]⟩ :: nm :: blW f l).length = _ from HLN.out] at hcall
  refine Calls.mono hcall ?_
  clear hcall
  rintro _ _ ⟨rfl, hB⟩
  replace H := Lib.hid (H.out.go hB)
  rw [show (⟨(Lib.join ((⟨#[106, 111, 98]⟩ :: nm :: blW f l).map (·.data.toList)) [32]).toArray⟩ : ByteArray) = js from J.out.symm]
  clear hB
  replace hjd := hjd.out
  go_wp2_with (first
      | go_skip
      | ((with_reducible refine isLoad ?_); refine ld1A H ?_ (hT := by first | exact kInt | exact kStl | exact kBll | exact kStr | exact kStrs)))
  go_ret2
  exact ⟨rfl, H.out.sub (by (repeat (first | exact List.Sublist.refl _ | refine List.Sublist.cons_cons _ ?_ | refine List.Sublist.trans ?_ (List.sublist_append_right _ _) | refine List.Sublist.cons _ ?_)))⟩
end Go.Proofs.YtbphdmnomakeoaaDoor

namespace Go.Proofs.YtbphdmnomakeoaaDoor
open Go.RowKit
set_option linter.unusedVariables false
set_option maxRecDepth 100000

/-- wait 3 -/
def w3 : Stm := .mk 5 ⟨#[]⟩ ⟨#[]⟩ none 3 []
def w3c : List Value := [.int .i64 5, .string ⟨#[]⟩, .string ⟨#[]⟩, .bool false, .string ⟨#[]⟩, .string ⟨#[]⟩, .int .i64 3, .slice none 0 0]
theorem w3_ok : checkE 1 ⟨#[120]⟩ [w3] = 0 := by decide +kernel
theorem w3_rs (g : Nat) : RSs [(g, 53, w3c)] 1 [w3] (.slice (some ⟨g, 0, none⟩) 1 1) := by
  exact ⟨[⟨5, ⟨#[]⟩, ⟨#[]⟩, none, 3, .slice none 0 0⟩], RowIn.lit rfl (by unfold maxLen; omega), All2.cons ((RSt.leaf 0 ⟨small_i (x := 5) (by omega), small_i (x := 3) (by omega), empty_sz, empty_sz, SmO.none⟩).mono (by simp)) All2.nil⟩
def js3 : ByteArray := ⟨#[106, 111, 98, 32, 120, 32, 123, 32, 119, 97, 105, 116, 32, 51, 32, 59, 32, 125]⟩
theorem js3_ok : js3 = ⟨(Lib.join ((⟨#[106, 111, 98]⟩ :: ⟨#[120]⟩ :: blW (fun _ => [⟨#[119, 97, 105, 116]⟩, dig1 3, ⟨#[59]⟩]) [w3]).map (·.data.toList)) [32]).toArray⟩ := by rfl
theorem js3_le : (Lib.join ((⟨#[106, 111, 98]⟩ :: ⟨#[120]⟩ :: blW (fun _ => [⟨#[119, 97, 105, 116]⟩, dig1 3, ⟨#[59]⟩]) [w3]).map (·.data.toList)) [32]).length ≤ 4096 := by decide +kernel
set_option maxHeartbeats 4000000 in
theorem parsed_any (w0 w : World) (m : Ents) (H : Hid (Hp w0 w m)) : Calls Tryd.prog 17 #[] w fun e w' => e = .returned (.bool true) ∧ Hp w0 w' m := by
  go_enter Tryd.func17, Tryd.ntmps17
  go_wp2_with (first
      | go_skip
      | ((with_reducible refine isSlc ?_); refine bsA 53 w3c 1 H ?_; clear H; intro gz _ H))
  go_at_call 32
  have hcall := Print_ok [(gz, 53, w3c)] 1 [w3] (fun _ => [⟨#[119, 97, 105, 116]⟩, dig1 3, ⟨#[59]⟩]) ⟨#[120]⟩ js3 (fun j s hj => by
    cases j with
    | zero => cases hj; exact stmt_wait _ _ _ 3 rfl rfl (by decide) rfl
    | succ j => simp at hj) w0 _ _ _ H (Lib.hid (by simp)) (Lib.hid (w3_rs gz)) (by decide +kernel) (Lib.hid w3_ok) (by decide) (Lib.hid js3_ok) js3_le
  clear H
  refine Calls.mono hcall ?_
  clear hcall
  rintro _ _ ⟨rfl, h2⟩
  have H := Lib.hid h2.drop
  clear h2
  unfold js3
  go_wp2_with (first
      | go_skip)
  go_ret
  exact ⟨rfl, H.out⟩
end Go.Proofs.YtbphdmnomakeoaaDoor
