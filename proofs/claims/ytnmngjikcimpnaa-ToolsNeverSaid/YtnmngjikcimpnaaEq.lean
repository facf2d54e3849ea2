/- The walks of slices.Equal and slices.Clone at []int. -/
import Derived.Test.YtnmngjikcimpnaaOrdB
import Derived.Test.YtnmngjikcimpnaaOwn
namespace Go.Proofs.Ytnmngjikcimpnaa
open Go.RowKit
set_option linter.unusedVariables false

set_option maxHeartbeats 1000000 in
theorem equal_any (A B : Option Addr) (n m c d : Nat) (xs ys : List Int) (w : World) (r : Bool) (hn : xs.length = n) (hm : ys.length = m) (hb : n ≤ maxLen) (hb' : m ≤ maxLen) (hX : RI w A xs) (hY : RI w B ys) (hr : Says r (xs = ys)) :
    Calls Try.prog 25 #[.slice A n c, .slice B m d] w fun e w' => e = .returned (.bool r) ∧ ∃ k, w' = w.drewN k := by
  subst hn
  subst hm
  unfold maxLen at hb hb'
  have HX := Lib.hid hX
  have HY := Lib.hid hY
  clear hX hY
  by_cases hl : xs.length = ys.length
  · have hq : ((xs.length : Int) != ys.length) = false := by rw [hl]; simp
    have Hl := Lib.hid hl
    clear hl
    go_enter Try.func25, Try.ntmps25
    go_wp2
    go_loopw [13] (fun i wr => ∃ k : Nat, k ≤ xs.length ∧ i = .int .i64 k ∧ Hid (∀ j, j < k → xs[j]? = ys[j]?) ∧ ∃ n, wr = w.drewN n) (fun i _ => xs.length - (intOf i).toNat)
    case atStart => exact ⟨0, by omega, rfl, fun j hj => absurd hj (by omega), 0, rfl⟩
    case round =>
      obtain ⟨k, hk, rfl, hall, n, rfl⟩ := hrel
      by_cases hlt : k < xs.length
      · obtain ⟨x, hx⟩ := some_at hlt
        obtain ⟨y, hy⟩ := some_at (l := ys) (k := k) (by have := Hl.out; omega)
        obtain ⟨b, o, rfl, hb1, hc⟩ := HX.out (by omega)
        obtain ⟨b', o', rfl, hb1', hc'⟩ := HY.out (by have := Hl.out; omega)
        have c1 := hc k x hx
        have c2 := hc' k y hy
        have hkx : (k : Int) < (xs.length : Int) := by omega
        have hky : (k : Int) < (ys.length : Int) := by have := Hl.out; omega
        have Hx := Lib.hid hx
        have Hy := Lib.hid hy
        clear hc hc' hx hy
        by_cases hxy : x = y
        · have hall2 : Hid (∀ j, j < k + 1 → xs[j]? = ys[j]?) := fun j hj => by
            by_cases e : j = k
            · subst e; rw [Hx.out, Hy.out, hxy]
            · exact hall.out j (by omega)
          have hd : (x != y) = false := by simp [hxy]
          clear hxy
          go_wp2
          go_quiet (fail)
          go_wp2
          go_roundw
          case rel => exact ⟨k + 1, by omega, by go_num, hall2, _, rfl⟩
          case measure => simp [intOf]; omega
        · have hd : (x != y) = true := by simp [hxy]
          have hrf : r = false := by
            cases r with
            | false => rfl
            | true =>
              have := hr.1 rfl
              have h1 := Hx.out
              rw [this, Hy.out] at h1
              cases h1
              exact absurd rfl hxy
          subst hrf
          clear hxy
          go_wp2
          go_quiet (fail)
          go_wp2
          go_ret
          exact ⟨rfl, _, by simp only [World.drewN_drewN]; rfl⟩
      · have hrt : r = true := hr.2 (List.ext_getElem? fun j => by
          by_cases hj : j < k
          · exact hall.out j hj
          · rw [List.getElem?_eq_none (by omega), List.getElem?_eq_none (by have := Hl.out; omega)])
        subst hrt
        go_wp2
        go_ret
        exact ⟨rfl, _, rfl⟩
  · have hq : ((xs.length : Int) != ys.length) = true := by simp; omega
    have hrf : r = false := by
      cases r with
      | false => rfl
      | true => exact absurd (by rw [hr.1 rfl]) hl
    subst hrf
    clear hl
    go_enter Try.func25, Try.ntmps25
    go_wp2
    go_ret
    exact ⟨rfl, 0, rfl⟩
end Go.Proofs.Ytnmngjikcimpnaa
