/- The walk of gantmake.Below; arguments that are slices of integers. · The walk of (*Stream).Next. -/
import Derived.Test.YtmfejdikfpckdaaGreatDoorProg
import Derived.Test.YtmfejdikfpckdaaGreatDoorFc5
namespace Go.Proofs.YtmfejdikfpckdaaGreatDoor
open Go.RowKit

theorem mod_below (x n : Int) (hn : 0 < n) : (if x.tmod n < 0 then x.tmod n + n else x.tmod n) = x % n := by
  rcases Int.lt_or_le x 0 with h | h
  · by_cases hd : n ∣ x
    · have h1 : x % n = 0 := Int.emod_eq_zero_of_dvd hd
      have h2 : x.tmod n = 0 := Int.tmod_eq_zero_of_dvd hd
      simp [h1, h2]
    · have h3 := Int.tmod_eq_emod (a := x) (b := n)
      have h4 := Int.emod_lt_of_pos x hn
      have h5 := Int.emod_nonneg x (show n ≠ 0 by omega)
      have h6 : ¬ (0 ≤ x ∨ n ∣ x) := fun h6 => h6.elim (fun h6 => by omega) hd
      rw [if_neg h6] at h3
      have h7 : (n.natAbs : Int) = n := by omega
      rw [h3]
      split <;> omega
  · have h1 : x.tmod n = x % n := Int.tmod_eq_emod_of_nonneg h
    have h5 := Int.emod_nonneg x (show n ≠ 0 by omega)
    rw [h1, if_neg (by omega)]

set_option linter.unusedVariables false
set_option maxHeartbeats 400000 in
theorem below_any (x n : Int) (w : World) (hn : 0 < n) (h1 : -9223372036854775808 ≤ x) (h2 : x ≤ 9223372036854775807) (h3 : n ≤ 9223372036854775807) :
    Calls Tryz.prog 8 #[.int .i64 x, .int .i64 n] w fun e w' => e = .returned (.int .i64 (x % n)) ∧ w = w' := by
  have hm := Lib.hid (mod_below x n hn)
  have hb1 := Int.tmod_lt_of_pos x hn
  have hb2 : -n < x.tmod n := by have h4 := Int.tmod_eq_emod (a := x) (b := n); have h5 := Int.emod_nonneg x (show n ≠ 0 by omega); have h6 := Int.emod_lt_of_pos x hn; split at h4 <;> omega
  go_enter Tryz.func8, Tryz.ntmps8
  go_wp2
  · go_ret
    exact ⟨ret_int (by rw [← hm.out, if_pos (by assumption)]), rfl⟩
  · go_ret
    exact ⟨ret_int (by rw [← hm.out, if_neg (by omega)]), rfl⟩

/-- An argument: a slice of integers. -/
def IntArg (w : World) (A : Option Addr) (n c : Nat) (xs : List Int) : Prop := xs.length = n ∧ n ≤ c ∧ c ≤ maxLen ∧ RI w A xs ∧ ∀ x ∈ xs, -9223372036854775808 ≤ x ∧ x ≤ 9223372036854775807
theorem intArg_of {w : World} {a : Option Addr} {len cap : Nat} {zs : List Int} (h : (a = none ∧ len = 0 ∧ cap = 0 ∧ zs = []) ∨
    ∃ x, a = some x ∧ len ≤ cap ∧ cap ≤ maxLen ∧ zs.length = cap ∧ (∀ i, i < zs.length → w.cell? (x.add i) = some (.int .i64 (zs.getD i 0))) ∧ ∀ n ∈ zs, (Lit.int .i64 n).wf = true) : ∃ xs, IntArg w a len cap xs := by
  rcases h with ⟨rfl, rfl, rfl, rfl⟩ | ⟨x, rfl, h1, h2, h3, h4, h5⟩
  · exact ⟨[], rfl, by omega, by unfold maxLen; omega, RI.nil _ _, by simp⟩
  · refine ⟨zs.take len, by simp; omega, h1, h2, fun hp => ?_, fun y hy => ?_⟩
    · have hlt : 0 < zs.length := by simp at hp; omega
      obtain ⟨b, off, sp⟩ := x
      have h0 := h4 0 hlt
      have hsp : sp = none := by
        rcases sp with _ | sp
        · rfl
        · simp only [Addr.add, World.cell?] at h0
          split at h0 <;> simp at h0
      subst hsp
      refine ⟨b, off, rfl, ?_, fun j y hj => ?_⟩
      · have := World.block_lt_of_cell? w _ h0
        simpa [Addr.add] using this
      · rw [List.getElem?_take] at hj
        split at hj
        · have := h4 j (lt_of_at hj)
          rw [Addr.add_lit] at this
          simpa [List.getD, hj] using this
        · cases hj
    · have := h5 y (List.mem_of_mem_take hy)
      simpa [Lit.wf, IntKind.min, IntKind.max, IntKind.signed, IntKind.bits] using this

end Go.Proofs.YtmfejdikfpckdaaGreatDoor

namespace Go.Proofs.YtmfejdikfpckdaaGreatDoor
open Go.RowKit


end Go.Proofs.YtmfejdikfpckdaaGreatDoor
