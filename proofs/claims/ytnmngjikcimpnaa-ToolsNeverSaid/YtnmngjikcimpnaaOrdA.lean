/- The walks of order.Check and order.long. -/
import Derived.Test.YtnmngjikcimpnaaMake
namespace Go.Proofs.Ytnmngjikcimpnaa
open Go.RowKit
set_option linter.unusedVariables false

set_option maxHeartbeats 400000 in
theorem check_ok (A : Option Addr) (c : Nat) (xss : List (List Int)) (w : World) (hR : RII w A xss) (hV : Valid xss) :
    Calls Try.prog 32 #[.slice A xss.length c] w fun e w' => e = .returned (.int .i64 0) ∧ w = w' := by
  have hlen := hV.1
  have HR := Lib.hid hR; clear hR
  go_enter Try.func32, Try.ntmps32
  go_wp2
  go_loop [12] (fun i => ∃ k : Nat, k ≤ xss.length ∧ i = .int .i64 k) (fun i => xss.length - (intOf i).toNat)
  case atStart => exact ⟨0, by omega, rfl⟩
  case round =>
    obtain ⟨k, hk, rfl⟩ := hrel
    by_cases hlt : k < xss.length
    · obtain ⟨b, o, rfl, hb, hc⟩ := HR.out (by omega)
      obtain ⟨l, hl⟩ := some_at hlt
      obtain ⟨Aj, cj, h1, h2⟩ := hc k l hl
      obtain ⟨v1, v2⟩ := hV.2 k l hl
      have hll := hV.len hl
      have H2 := Lib.hid h2
      have V1 := Lib.hid v1
      have V2 := Lib.hid v2
      clear hV hc hl h2 v1 v2
      go_wp2
      go_loop [19] (fun i => ∃ k : Nat, k ≤ l.length ∧ i = .int .i64 k) (fun i => l.length - (intOf i).toNat)
      case atStart => exact ⟨0, by omega, rfl⟩
      case round =>
        obtain ⟨i, hi, rfl⟩ := hrel
        by_cases hlt' : i < l.length
        · obtain ⟨b', o', rfl, hb', hc'⟩ := H2.out (by omega)
          obtain ⟨x, hx⟩ := some_at hlt'
          have c1 := hc' i x hx
          obtain ⟨x1, x2⟩ := V1.out i x hx
          rcases i with _ | i
          · replace c1 : w.cell? ⟨b', o', none⟩ = some (.int .i64 x) := c1
            clear hc' hx
            go_wp2
            go_round
            case rel => exact ⟨1, by omega, rfl⟩
            case measure => simp [intOf]; omega
          · obtain ⟨y, hy⟩ := some_at (l := l) (k := i) (by omega)
            have c2 : w.cell? ⟨b', o' + i, none⟩ = some (.int .i64 y) := hc' i y hy
            have hxy := V2.out i y x hy hx
            clear hc' hx hy
            go_wp2
            go_round
            case rel => exact ⟨i + 2, by omega, by go_num⟩
            case measure => simp [intOf]; omega
        · go_wp2
          go_round
          case rel => exact ⟨k + 1, by omega, by go_num⟩
          case measure => simp [intOf]; omega
    · go_wp2
      go_ret
      exact ⟨rfl, rfl⟩

/-- Durations of steps. -/
def Durs (xss : List (List Int)) (ts : List Int) : Prop := ts.length = xss.length ∧ ∀ (k : Nat) (x : Int), ts[k]? = some x → 0 ≤ x ∧ x ≤ 2000

set_option maxHeartbeats 400000 in
theorem long_ok (A B : Option Addr) (c d : Nat) (xss : List (List Int)) (ts : List Int) (w : World) (hR : RII w A xss) (hV : Valid xss) (hT : RI w B ts) (hD : Durs xss ts) :
    Calls Try.prog 26 #[.slice A xss.length c, .slice B ts.length d] w fun e w' => e = .returned (.int .i64 0) ∧ w = w' := by
  have hlen := hV.1
  obtain ⟨hd1, hd2⟩ := hD
  have HD := Lib.hid hd2
  have HT := Lib.hid hT
  have hq : ((ts.length : Int) != xss.length) = false := by rw [hd1]; simp
  have hle : ts.length ≤ 40 := by omega
  clear hd1 hd2 hT
  go_enter Try.func26, Try.ntmps26
  go_wp2_with (go_at_call 32; refine (check_ok _ _ _ _ hR hV).mono ?_; rintro e w' ⟨rfl, rfl⟩)
  go_loop [20] (fun i => ∃ k : Nat, k ≤ ts.length ∧ i = .int .i64 k) (fun i => ts.length - (intOf i).toNat)
  case atStart => exact ⟨0, by omega, rfl⟩
  case round =>
    obtain ⟨k, hk, rfl⟩ := hrel
    by_cases hlt : k < ts.length
    · obtain ⟨b, o, rfl, hb, hc⟩ := HT.out (by omega)
      obtain ⟨x, hx⟩ := some_at hlt
      have c1 := hc k x hx
      obtain ⟨x1, x2⟩ := HD.out k x hx
      clear hc hx
      go_wp2
      go_round
      case rel => exact ⟨k + 1, by omega, by go_num⟩
      case measure => simp [intOf]; omega
    · go_wp2
      go_ret
      exact ⟨rfl, rfl⟩
end Go.Proofs.Ytnmngjikcimpnaa
