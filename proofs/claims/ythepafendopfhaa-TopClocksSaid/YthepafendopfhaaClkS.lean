/- clock.Show. Printed by gen/clk.py. -/
import Derived.Test.YthepafendopfhaaClkR
namespace Go.Proofs.Ythepafendopfhaa
open Go.RowKit
set_option linter.unusedVariables false
set_option maxRecDepth 100000

set_option maxHeartbeats 4000000 in
theorem show_any (F : List Flt) (B : Option Addr) (n c : Nat) (cur : List Value) (st arm tick : Int) (w : World) (R : Hid (RowV 3 (.slice B n c) n (flat Flt.cells F) cur)) (X : Hid (∀ g, B = some ⟨g, 0, none⟩ → Blk w g 30 cur.toArray)) (h1 : 0 ≤ tick) (h2 : tick ≤ 2000) (h3 : n ≤ 1000) :
    Calls Try.prog 9 #[.int .u32 st, .int .i64 arm, .int .i64 tick, .slice B n c] w fun e w' => e = .returned (.int .u32 (afterP st (tick - lostN F arm tick))) ∧ Below w.heap.size w w' := by
  have H := Lib.hid (Hp.start (w := w) trivial)
  have FN : Hid (F.length = n) := Nat.eq_of_mul_eq_mul_right (show 0 < 3 by decide) (by rw [← flat_len Flt.len F]; exact R.out.len)
  go_enter Try.func9, Try.ntmps9
  go_wp2
  go_loopw [9, 14] (fun l_ i_ wr => ∃ j : Nat, l_ = .int .i64 (lostN (F.take j) arm tick : Nat) ∧ i_ = .int .i64 j ∧ j ≤ n ∧ Hid (Hp w wr [])) (fun _ i_ _ => n - (intOf i_).toNat)
  case atStart => exact ⟨0, by simp [lostN], rfl, by omega, H⟩
  case round =>
    clear H
    obtain ⟨j, rfl, rfl, hj, H⟩ := hrel
    have hlj : lostN (F.take j) arm tick ≤ j := Nat.le_trans List.countP_le_length (by simp; omega)
    by_cases hlt : j < n
    · obtain ⟨x, hx⟩ : ∃ x, F[j]? = some x := ⟨_, List.getElem?_eq_getElem (by rw [FN.out]; exact hlt)⟩
      have HX := Lib.hid hx
      have hs := lost_snoc hx arm tick
      obtain ⟨L, hL⟩ : ∃ L, lostN (F.take j) arm tick = L := ⟨_, rfl⟩
      obtain ⟨g, cap, e1, _, _⟩ := R.out.at_ Flt.len hx (by decide)
      injection e1 with e1 _ e3
      subst e1
      have RG : Hid (RowV 3 (.slice (some ⟨g, 0, none⟩) n c) n (flat Flt.cells F) cur) := R
      have XG : Hid (Blk w g 30 cur.toArray) := X.out g rfl
      rw [hL] at hs hlj ⊢
      have hwl : IntKind.i64.wrap ((L : Int) + 1) = ((L + 1 : Nat) : Int) := by rw [Int.natCast_add]; exact IntWalk.i64_in _ (by omega)
      have HL := Lib.hid hL
      clear hx hL
      obtain ⟨xt, xk, xn⟩ := x
      by_cases q1 : xk = 5
      · by_cases q2 : xn = arm
        · by_cases q3 : 0 ≤ xt
          · by_cases q4 : xt ≤ tick
            · have d1 : decide (xk = 5) = true := by simp; omega
              have d2 : decide (xn = arm) = true := by simp; omega
              have d3 : decide (0 ≤ xt) = true := by simp; omega
              have d4 : decide (xt ≤ tick) = true := by simp; omega
              have HS : Hid (lostN (F.take (j + 1)) arm tick = L + 1) := by unfold Hid; rw [hs]; simp [Flt.hits, *]
              clear hs
              go_wp2_with (first
                  | go_skip
                  | ((with_reducible refine isLoad ?_); refine ldR H j Flt.len (by decide) XG RG HX rfl ?_ rFlt)
                  | ((with_reducible refine isLoad ?_); refine ldA H ?_)
                  | ((with_reducible refine isLoad ?_); refine ld1A H ?_)
                  | ((with_reducible refine isStore ?_); refine stA H ?_ (hT := rFlt); clear H; intro _ H)
                  | ((with_reducible refine isAlloc ?_); refine alA H ?_ (hz := zFlt); clear H; intro _ _ H))
              replace H := Lib.hid H.out.drop
              go_roundw
              case rel => first | exact ⟨_, _, _, ⟨j + 1, rfl, rfl, by omega, H⟩, (by first | (rw [HS.out]; done) | (rw [HS.out]; go_num)), rfl, by go_num⟩ | exact ⟨j + 1, (by first | (rw [HS.out]; done) | (rw [HS.out]; go_num)), by go_num, by omega, H⟩
              case measure => simp [intOf]; omega
            · have d1 : decide (xk = 5) = true := by simp; omega
              have d2 : decide (xn = arm) = true := by simp; omega
              have d3 : decide (0 ≤ xt) = true := by simp; omega
              have d4 : decide (xt ≤ tick) = false := by simp; omega
              have HS : Hid (lostN (F.take (j + 1)) arm tick = L) := by unfold Hid; rw [hs]; simp [Flt.hits, *]
              clear hs
              go_wp2_with (first
                  | go_skip
                  | ((with_reducible refine isLoad ?_); refine ldR H j Flt.len (by decide) XG RG HX rfl ?_ rFlt)
                  | ((with_reducible refine isLoad ?_); refine ldA H ?_)
                  | ((with_reducible refine isLoad ?_); refine ld1A H ?_)
                  | ((with_reducible refine isStore ?_); refine stA H ?_ (hT := rFlt); clear H; intro _ H)
                  | ((with_reducible refine isAlloc ?_); refine alA H ?_ (hz := zFlt); clear H; intro _ _ H))
              replace H := Lib.hid H.out.drop
              go_roundw
              case rel => first | exact ⟨_, _, _, ⟨j + 1, rfl, rfl, by omega, H⟩, (by first | (rw [HS.out]; done) | (rw [HS.out]; go_num)), rfl, by go_num⟩ | exact ⟨j + 1, (by first | (rw [HS.out]; done) | (rw [HS.out]; go_num)), by go_num, by omega, H⟩
              case measure => simp [intOf]; omega
          · have d1 : decide (xk = 5) = true := by simp; omega
            have d2 : decide (xn = arm) = true := by simp; omega
            have d3 : decide (0 ≤ xt) = false := by simp; omega
            have HS : Hid (lostN (F.take (j + 1)) arm tick = L) := by unfold Hid; rw [hs]; simp [Flt.hits, *]
            clear hs
            go_wp2_with (first
                | go_skip
                | ((with_reducible refine isLoad ?_); refine ldR H j Flt.len (by decide) XG RG HX rfl ?_ rFlt)
                | ((with_reducible refine isLoad ?_); refine ldA H ?_)
                | ((with_reducible refine isLoad ?_); refine ld1A H ?_)
                | ((with_reducible refine isStore ?_); refine stA H ?_ (hT := rFlt); clear H; intro _ H)
                | ((with_reducible refine isAlloc ?_); refine alA H ?_ (hz := zFlt); clear H; intro _ _ H))
            replace H := Lib.hid H.out.drop
            go_roundw
            case rel => first | exact ⟨_, _, _, ⟨j + 1, rfl, rfl, by omega, H⟩, (by first | (rw [HS.out]; done) | (rw [HS.out]; go_num)), rfl, by go_num⟩ | exact ⟨j + 1, (by first | (rw [HS.out]; done) | (rw [HS.out]; go_num)), by go_num, by omega, H⟩
            case measure => simp [intOf]; omega
        · have d1 : decide (xk = 5) = true := by simp; omega
          have d2 : decide (xn = arm) = false := by simp; omega
          have HS : Hid (lostN (F.take (j + 1)) arm tick = L) := by unfold Hid; rw [hs]; simp [Flt.hits, *]
          clear hs
          go_wp2_with (first
              | go_skip
              | ((with_reducible refine isLoad ?_); refine ldR H j Flt.len (by decide) XG RG HX rfl ?_ rFlt)
              | ((with_reducible refine isLoad ?_); refine ldA H ?_)
              | ((with_reducible refine isLoad ?_); refine ld1A H ?_)
              | ((with_reducible refine isStore ?_); refine stA H ?_ (hT := rFlt); clear H; intro _ H)
              | ((with_reducible refine isAlloc ?_); refine alA H ?_ (hz := zFlt); clear H; intro _ _ H))
          replace H := Lib.hid H.out.drop
          go_roundw
          case rel => first | exact ⟨_, _, _, ⟨j + 1, rfl, rfl, by omega, H⟩, (by first | (rw [HS.out]; done) | (rw [HS.out]; go_num)), rfl, by go_num⟩ | exact ⟨j + 1, (by first | (rw [HS.out]; done) | (rw [HS.out]; go_num)), by go_num, by omega, H⟩
          case measure => simp [intOf]; omega
      · have d1 : decide (xk = 5) = false := by simp; omega
        have HS : Hid (lostN (F.take (j + 1)) arm tick = L) := by unfold Hid; rw [hs]; simp [Flt.hits, *]
        clear hs
        go_wp2_with (first
            | go_skip
            | ((with_reducible refine isLoad ?_); refine ldR H j Flt.len (by decide) XG RG HX rfl ?_ rFlt)
            | ((with_reducible refine isLoad ?_); refine ldA H ?_)
            | ((with_reducible refine isLoad ?_); refine ld1A H ?_)
            | ((with_reducible refine isStore ?_); refine stA H ?_ (hT := rFlt); clear H; intro _ H)
            | ((with_reducible refine isAlloc ?_); refine alA H ?_ (hz := zFlt); clear H; intro _ _ H))
        replace H := Lib.hid H.out.drop
        go_roundw
        case rel => first | exact ⟨_, _, _, ⟨j + 1, rfl, rfl, by omega, H⟩, (by first | (rw [HS.out]; done) | (rw [HS.out]; go_num)), rfl, by go_num⟩ | exact ⟨j + 1, (by first | (rw [HS.out]; done) | (rw [HS.out]; go_num)), by go_num, by omega, H⟩
        case measure => simp [intOf]; omega
    · have hjn : j = n := by omega
      subst hjn
      have hL : lostN (F.take j) arm tick = lostN F arm tick := by rw [List.take_of_length_le (by rw [FN.out]; exact Nat.le_refl _)]
      rw [hL] at hlj ⊢
      obtain ⟨L, hL⟩ : ∃ L, lostN F arm tick = L := ⟨_, rfl⟩
      rw [hL] at hlj ⊢
      have hw2 : IntKind.i64.wrap (tick - (L : Int)) = tick - (L : Int) := IntWalk.i64_in _ (by omega)
      have hmx : max tick 0 = tick := by omega
      have HL2 := Lib.hid hL
      clear hlt hL
      go_wp2_with (go_at_call 21; refine (after_any _ _ _).mono ?_; rintro e w' ⟨rfl, rfl⟩)
      go_ret
      exact ⟨by rw [HL2.out]; rfl, H.out.bel⟩
end Go.Proofs.Ythepafendopfhaa
