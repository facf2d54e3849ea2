/- The walks of nat.left, takeAway, putBack. Printed by gen/numh.py. · The walks of nat.takeAway and putBack. Printed by gen/numi.py. -/
import Derived.Test.YtmfejdikfpckdaaGreatDoorFc12
import Derived.Lib.ItoaNum
namespace Go.Proofs.YtmfejdikfpckdaaGreatDoor
open Go.RowKit
set_option linter.unusedVariables false
set_option maxRecDepth 100000

theorem two32 {s : Nat} (hs : s ≤ 32) : 4294967296 = 2 ^ s * 2 ^ (32 - s) := by
  rw [← Nat.pow_add, show s + (32 - s) = 32 by omega]
theorem or_low {o t s : Nat} (h : o < 2 ^ s) : o ||| 2 ^ s * t = o + 2 ^ s * t := by
  have := Nat.shiftLeft_add_eq_or_of_lt (b := o) (i := s) h t
  rw [Nat.shiftLeft_eq] at this
  rw [Nat.or_comm, Nat.mul_comm, ← this, Nat.add_comm]
/-- What a round of left computes. -/
theorem left_nums {X i s x o m : Nat} (hs : s ≤ 31) (hx : x = X / 4294967296 ^ i % 4294967296) (ho : o = X % 4294967296 ^ i * 2 ^ s / 4294967296 ^ i % 4294967296) :
    ∃ V v0 v1 d : Nat, IntKind.u64.wrap ((x : Int) * 2 ^ s) = (V : Int) ∧ (V : Int) % 4294967296 = (v0 : Int) ∧ (V : Int) / 4294967296 = (v1 : Int) ∧ bits .or .u32 (o : Int) (v0 : Int) = (d : Int) ∧ V ≤ 18446744073709551615 ∧ v0 < 4294967296 ∧ v1 < 4294967296 ∧ d < 4294967296 ∧
      (i < m → wDig (m + 1) (X % 4294967296 ^ (i + 1) * 2 ^ s) = ((wDig (m + 1) (X % 4294967296 ^ i * 2 ^ s)).set i d).set (i + 1) v1) := by
  have hxl : x < 4294967296 := by rw [hx]; exact dig_lt X i
  have hA := pw_pos i
  have hS : 0 < 2 ^ s := Nat.pow_pos (by decide)
  have hSl : 2 ^ s ≤ 2147483648 := show 2 ^ s ≤ 2 ^ 31 from Nat.pow_le_pow_right (by decide) hs
  have h32 := two32 (s := s) (by omega)
  have m1 := mod_succ X i
  rw [← hx] at m1
  have hV : x * 2 ^ s ≤ 4294967295 * 2147483648 := Nat.mul_le_mul (by omega) hSl
  have hr := Nat.mod_lt X hA
  -- the part below
  have hol : X % 4294967296 ^ i * 2 ^ s / 4294967296 ^ i < 2 ^ s := by
    rw [Nat.div_lt_iff_lt_mul hA, Nat.mul_comm (2 ^ s)]
    exact Nat.mul_lt_mul_of_pos_right hr hS
  have ho2 : o = X % 4294967296 ^ i * 2 ^ s / 4294967296 ^ i := by rw [ho]; exact Nat.mod_eq_of_lt (by omega)
  have hv0 : x * 2 ^ s % 4294967296 = 2 ^ s * (x % 2 ^ (32 - s)) := by
    conv => lhs; rw [h32, Nat.mul_comm x]
    exact Nat.mul_mod_mul_left _ _ _
  have hor := or_low (o := o) (t := x % 2 ^ (32 - s)) (s := s) (by rw [ho2]; exact hol)
  rw [← hv0] at hor
  have hsum : o + x * 2 ^ s % 4294967296 < 4294967296 := by
    have h1 : x % 2 ^ (32 - s) + 1 ≤ 2 ^ (32 - s) := Nat.mod_lt x (Nat.pow_pos (by decide))
    have h2 : 2 ^ s * (x % 2 ^ (32 - s) + 1) ≤ 2 ^ s * 2 ^ (32 - s) := Nat.mul_le_mul_left _ h1
    rw [← h32, Nat.mul_add, ← hv0] at h2
    rw [← ho2] at hol
    omega
  have hpi : ((2 : Int) ^ s) = ((2 ^ s : Nat) : Int) := by rw [Int.natCast_pow]; rfl
  have hcast : (x : Int) * 2 ^ s = ((x * 2 ^ s : Nat) : Int) := by rw [hpi, Int.natCast_mul]
  have e := Nat.div_add_mod (x * 2 ^ s) 4294967296
  generalize hVV : x * 2 ^ s = V at *
  refine ⟨V, V % 4294967296, V / 4294967296, o + V % 4294967296, ?_, by omega, by omega, ?_, by omega, by omega, by omega, hsum, fun him => ?_⟩
  · rw [hcast]; exact IntWalk.u64_in _ (by omega)
  · rw [u32_or_nat o (V % 4294967296) (by omega) (by omega), hor]
  · -- the new number
    have hN : X % 4294967296 ^ (i + 1) * 2 ^ s = X % 4294967296 ^ i * 2 ^ s + 4294967296 ^ i * V := by
      rw [m1, Nat.add_mul, ← hVV]; congr 1; ac_rfl
    have dN := Nat.div_add_mod (X % 4294967296 ^ i * 2 ^ s) (4294967296 ^ i)
    rw [← ho2] at dN
    have dr := Nat.mod_lt (X % 4294967296 ^ i * 2 ^ s) hA
    rw [hN]
    generalize X % 4294967296 ^ i * 2 ^ s = N at *
    have hdiv : (N + 4294967296 ^ i * V) / 4294967296 ^ i = o + V := by
      rw [Nat.add_mul_div_left _ _ hA, ho2]
    have hN2 : N < 4294967296 ^ (i + 1) := by
      rw [Nat.pow_succ]
      have : 4294967296 ^ i * (o + 1) ≤ 4294967296 ^ i * 4294967296 := Nat.mul_le_mul_left _ (by omega)
      rw [Nat.mul_add] at this
      omega
    have hov : (o + V) / 4294967296 = V / 4294967296 := by omega
    apply List.ext_getElem?
    intro j
    rw [List.getElem?_set, List.getElem?_set, List.length_set, show (wDig (m + 1) N).length = m + 1 by simp [wDig]]
    by_cases hj : j < m + 1
    · rw [wDig_at hj, wDig_at hj]
      by_cases h1 : i + 1 = j
      · subst h1
        rw [if_pos rfl, if_pos (by omega), Nat.pow_succ, ← Nat.div_div_eq_div_mul, hdiv, hov]
        congr 1
        exact Nat.mod_eq_of_lt (by omega)
      · rw [if_neg h1]
        by_cases h2 : i = j
        · subst h2
          rw [if_pos rfl, if_pos (by omega), hdiv]
          congr 1
          omega
        · rw [if_neg h2]
          congr 1
          rcases Nat.lt_or_ge j i with h3 | h3
          · have hp : 4294967296 ^ i = 4294967296 ^ j * (4294967296 * 4294967296 ^ (i - j - 1)) := by
              conv => lhs; rw [show i = j + (1 + (i - j - 1)) by omega, Nat.pow_add, Nat.pow_add, Nat.pow_one]
            rw [hp, Nat.mul_assoc, Nat.mul_assoc, Nat.add_mul_div_left _ _ (pw_pos j), Nat.add_mul_mod_self_left]
          · have hN3 : N + 4294967296 ^ i * V < 4294967296 ^ (i + 2) := by
              rw [Nat.pow_succ, Nat.pow_succ, Nat.mul_assoc]
              have : 4294967296 ^ i * (o + V + 1) ≤ 4294967296 ^ i * (4294967296 * 4294967296) := Nat.mul_le_mul_left _ (by omega)
              simp only [Nat.mul_add] at this
              omega
            rw [dig_high hN3 (by omega), dig_high hN2 (by omega)]
    · rw [List.getElem?_eq_none (by simp [wDig]; omega), if_neg (by omega), if_neg (by omega), List.getElem?_eq_none (by simp [wDig]; omega)]

set_option maxHeartbeats 4000000 in
theorem left_any (gx cx m X s : Nat) (w : World) (hm : m ≤ 30000) (hs : s ≤ 31) (hX : Blk w gx 134 (wC (wDig m X))) (hXl : X < 4294967296 ^ m) :
    Calls Tryz.prog 115 #[.slice (some ⟨gx, 0, none⟩) m cx, .int .i64 s] w fun e w' => ∃ g, e = .returned (.slice (some ⟨g, 0, none⟩) (m + 1 : Nat) (m + 1 : Nat)) ∧ w.heap.size ≤ g ∧ Blk w' g 134 (wC (wDig (m + 1) (X * 2 ^ s))) ∧ Below w.heap.size w w' := by
  have LX := Lib.hid hXl
  have X0 := Lib.hid hX
  clear hX hXl
  have hmk := run_make_row' (P := Tryz.prog) 132 134 (.int .u32 0) 4 Tryz.underlying132 info_u32 rfl .i64 .i64 (m + 1) (by omega) (by omega)
  have hmc : (((m + 1 : Nat)) : Int) = (m : Int) + 1 := by omega
  rw [hmc] at hmk
  have Z0 : Hid (Blk (w.alloc (.cells (madeCells #[.int .u32 0] (m + 1)) 134)) w.heap.size 134 (wC (wDig (m + 1) (X % 4294967296 ^ 0 * 2 ^ s)))) := by
    have e : wDig (m + 1) (X % 4294967296 ^ 0 * 2 ^ s) = List.replicate (m + 1) 0 := by
      rw [← aPart_zero (m + 1) 0]
      unfold wDig aPart
      refine List.map_congr_left fun j _ => ?_
      rw [Nat.pow_zero, Nat.mod_one, Nat.zero_mul, Nat.zero_div, if_neg (by omega)]
    unfold Hid
    rw [e, ← made_wC]
    exact Blk.new _ _ _
  have B0 := Lib.hid ((Below.refl w.heap.size w).alloc (Nat.le_refl _) (.cells (madeCells #[.int .u32 0] (m + 1)) 134))
  clear hmc
  go_enter Tryz.func115, Tryz.ntmps115
  go_wp2_with fail
  clear hmk
  go_loopw [15] (fun i wr => ∃ k : Nat, i = .int .i64 k ∧ k ≤ m ∧ Hid (Blk wr w.heap.size 134 (wC (wDig (m + 1) (X % 4294967296 ^ k * 2 ^ s)))) ∧ Hid (Below w.heap.size w wr)) (fun i _ => m - (intOf i).toNat)
  case atStart => exact ⟨0, rfl, by omega, Z0, B0⟩
  case round =>
    clear Z0 B0
    obtain ⟨i, rfl, hi, Z, B⟩ := hrel
    by_cases hlt : i < m
    · obtain ⟨x, hx⟩ : ∃ x, x = X / 4294967296 ^ i % 4294967296 := ⟨_, rfl⟩
      obtain ⟨o, ho⟩ : ∃ o, o = X % 4294967296 ^ i * 2 ^ s / 4294967296 ^ i % 4294967296 := ⟨_, rfl⟩
      obtain ⟨V, v0, v1, d, h1, h2, h3, h4, n1, n2, n3, n4, h5⟩ := left_nums (m := m) hs hx ho
      have hxl : x < 4294967296 := by rw [hx]; exact dig_lt _ _
      have hol : o < 4294967296 := by rw [ho]; exact dig_lt _ _
      have cX : wr.cell? ⟨gx, i, none⟩ = some (.int .u32 x) := by rw [(X0.out.below B.out X0.out.lt).cell, hx]; exact wC_at (wDig_at hlt)
      have cZ : wr.cell? ⟨w.heap.size, i, none⟩ = some (.int .u32 o) := by rw [Z.out.cell, ho]; exact wC_at (wDig_at (by omega))
      have fZ := Z.out.frozen i
      obtain ⟨u, cZ1⟩ : ∃ u, wr.cell? ⟨w.heap.size, i + 1, none⟩ = some u := ⟨_, by rw [Z.out.cell]; exact Array.getElem?_eq_getElem (by simp [wC, wDig]; omega)⟩
      have fZ1 := Z.out.frozen (i + 1)
      have Z2 : Hid (Blk ((wr.setCell ⟨w.heap.size, i, none⟩ (.int .u32 d)).setCell ⟨w.heap.size, i + 1, none⟩ (.int .u32 v1)) w.heap.size 134 (wC (wDig (m + 1) (X % 4294967296 ^ (i + 1) * 2 ^ s)))) := by
        unfold Hid
        rw [h5 hlt, ← wC_set, ← wC_set]
        exact (Z.out.set_ i _).set_ (i + 1) _
      have B2 : Hid (Below w.heap.size w ((wr.setCell ⟨w.heap.size, i, none⟩ (.int .u32 d)).setCell ⟨w.heap.size, i + 1, none⟩ (.int .u32 v1))) := (B.out.setCell (p := ⟨w.heap.size, i, none⟩) (Nat.le_refl _) _).setCell (p := ⟨w.heap.size, i + 1, none⟩) (Nat.le_refl _) _
      clear hx ho h5
      go_wp2_with fail
      go_roundw
      case rel => exact ⟨i + 1, by go_num, by omega, Z2, B2⟩
      case measure => simp [intOf]; omega
    · have him : i = m := by omega
      subst him
      have ZF : Hid (Blk wr w.heap.size 134 (wC (wDig (i + 1) (X * 2 ^ s)))) := by
        have := Z.out
        rw [Nat.mod_eq_of_lt LX.out] at this
        exact this
      go_wp2_with fail
      go_ret
      exact ⟨w.heap.size, rfl, Nat.le_refl _, ZF.out, B.out⟩
end Go.Proofs.YtmfejdikfpckdaaGreatDoor

namespace Go.Proofs.YtmfejdikfpckdaaGreatDoor
open Go.RowKit
set_option linter.unusedVariables false
set_option maxRecDepth 100000

/-- From k on, i digits are those of Z; all others are those of U. -/
def kPart (M U Z k i : Nat) : List Nat := (List.range M).map fun j => if k ≤ j ∧ j < k + i then Z / 4294967296 ^ (j - k) % 4294967296 else U / 4294967296 ^ j % 4294967296
theorem kPart_len (M U Z k i : Nat) : (kPart M U Z k i).length = M := by simp [kPart]
theorem kPart_at {M U Z k i j : Nat} (h : j < M) : (kPart M U Z k i)[j]? = some (if k ≤ j ∧ j < k + i then Z / 4294967296 ^ (j - k) % 4294967296 else U / 4294967296 ^ j % 4294967296) := by
  unfold kPart; rw [List.getElem?_map, List.getElem?_range h]; rfl
theorem kPart_zero (M U Z k : Nat) : kPart M U Z k 0 = wDig M U := by
  unfold kPart wDig
  exact List.map_congr_left fun j _ => by rw [if_neg (by omega)]
theorem kPart_next {M U Z k i : Nat} (h : k + i < M) : (kPart M U Z k i)[k + i]? = some (U / 4294967296 ^ k / 4294967296 ^ i % 4294967296) := by
  rw [kPart_at h, if_neg (by omega), Nat.div_div_eq_div_mul, ← Nat.pow_add]
theorem kPart_step {M U Z k i d : Nat} (h : k + i < M) (hd : Z / 4294967296 ^ i % 4294967296 = d) : kPart M U Z k (i + 1) = (kPart M U Z k i).set (k + i) d := by
  apply List.ext_getElem?
  intro j
  rw [List.getElem?_set]
  by_cases hj : j < M
  · rw [kPart_at hj, kPart_at hj]
    by_cases h1 : k + i = j
    · subst h1; rw [if_pos rfl, if_pos (by omega), if_pos (by rw [kPart_len]; exact h), show k + i - k = i by omega, hd]
    · rw [if_neg h1]
      by_cases h2 : k ≤ j ∧ j < k + i
      · rw [if_pos h2, if_pos (by omega)]
      · rw [if_neg h2, if_neg (by omega)]
  · rw [List.getElem?_eq_none (by simp [kPart]; omega), if_neg (by omega), List.getElem?_eq_none (by simp [kPart]; omega)]
theorem low_dig (U j k : Nat) (h : j < k) (T : Nat) : (U % 4294967296 ^ k + 4294967296 ^ k * T) / 4294967296 ^ j % 4294967296 = U / 4294967296 ^ j % 4294967296 := by
  have hp : 4294967296 ^ k = 4294967296 ^ j * (4294967296 * 4294967296 ^ (k - j - 1)) := by
    conv => lhs; rw [show k = j + (1 + (k - j - 1)) by omega, Nat.pow_add, Nat.pow_add, Nat.pow_one]
  rw [hp, Nat.mul_assoc, Nat.mul_assoc, Nat.add_mul_div_left _ _ (pw_pos j), Nat.add_mul_mod_self_left, ← Nat.mul_assoc, Nat.mul_assoc, mod_div_mul, Nat.mod_mul_right_mod]
theorem kPart_all {M U Z k n : Nat} (hk : k + n + 1 ≤ M) (hU : U < 4294967296 ^ (k + n + 1)) : kPart M U Z k (n + 1) = wDig M (U % 4294967296 ^ k + 4294967296 ^ k * (Z % 4294967296 ^ (n + 1))) := by
  unfold kPart wDig
  refine List.map_congr_left fun j hj => ?_
  rw [List.mem_range] at hj
  have hT : U % 4294967296 ^ k + 4294967296 ^ k * (Z % 4294967296 ^ (n + 1)) < 4294967296 ^ (k + n + 1) := by
    rw [show k + n + 1 = k + (n + 1) by omega, Nat.pow_add 4294967296 k (n + 1)]
    have h1 := Nat.mod_lt U (pw_pos k)
    have h2 : Z % 4294967296 ^ (n + 1) + 1 ≤ 4294967296 ^ (n + 1) := Nat.mod_lt Z (pw_pos (n + 1))
    have h3 := Nat.mul_le_mul_left (4294967296 ^ k) h2
    rw [Nat.mul_add, Nat.mul_one] at h3
    generalize 4294967296 ^ (n + 1) = Q at *
    generalize 4294967296 ^ k * (Z % Q) = T at *
    generalize 4294967296 ^ k * Q = R at *
    generalize 4294967296 ^ k = A at *
    omega
  rcases Nat.lt_or_ge j k with h | h
  · rw [if_neg (by omega), low_dig U j k h]
  · by_cases h2 : j < k + (n + 1)
    · rw [if_pos ⟨h, h2⟩]
      have e : (U % 4294967296 ^ k + 4294967296 ^ k * (Z % 4294967296 ^ (n + 1))) / 4294967296 ^ j = Z % 4294967296 ^ (n + 1) / 4294967296 ^ (j - k) := by
        conv => lhs; rw [show j = k + (j - k) by omega, Nat.pow_add 4294967296 k (j - k), ← Nat.div_div_eq_div_mul, Nat.add_mul_div_left _ _ (pw_pos k), Nat.div_eq_of_lt (Nat.mod_lt _ (pw_pos k)), Nat.zero_add]
      have := low_dig Z (j - k) (n + 1) (by omega) 0
      rw [Nat.mul_zero, Nat.add_zero] at this
      rw [e, this]
    · rw [if_neg (by omega), dig_high hT (by omega), dig_high hU (by omega)]

theorem take_nums {X Y i x y b : Nat} (h : Y ≤ X) (hx : x = X / 4294967296 ^ i % 4294967296) (hy : y = Y / 4294967296 ^ i % 4294967296) (hb : b = bw X Y i) :
    ∃ (N1 N : Int) (d b' : Nat), IntKind.u64.wrap ((x : Int) - y) = N1 ∧ IntKind.u64.wrap (N1 - b) = N ∧ N % 4294967296 = d ∧ N / 9223372036854775808 = b' ∧ 0 ≤ N1 ∧ N1 ≤ 18446744073709551615 ∧ 0 ≤ N ∧ N ≤ 18446744073709551615 ∧ b' = bw X Y (i + 1) ∧ (X - Y) / 4294967296 ^ i % 4294967296 = d ∧ d < 4294967296 ∧ b' ≤ 1 := by
  have hxl : x < 4294967296 := by rw [hx]; exact Nat.mod_lt _ (by decide)
  have hyl : y < 4294967296 := by rw [hy]; exact Nat.mod_lt _ (by decide)
  have hbl := bw_le X Y i
  rw [← hb] at hbl
  have w64 : ∀ n : Int, -18446744073709551616 ≤ n → n ≤ 18446744073709551615 → IntKind.u64.wrap n = if n < 0 then n + 18446744073709551616 else n := by
    intro n h1 h2
    split
    · have : IntKind.u64.wrap n = n % 18446744073709551616 := by simp [IntKind.wrap, IntKind.bits, IntKind.signed]
      rw [this]; omega
    · exact IntWalk.u64_in _ ⟨by omega, h2⟩
  rcases bw_step h hx hy with ⟨h1, h2, h3⟩ | ⟨h1, h2, h3⟩
  · rw [← hb] at h1 h3
    refine ⟨x - y, x - y - b, x - y - b, 0, ?_, ?_, by omega, by omega, by omega, by omega, by omega, by omega, h2.symm, h3, by omega, by omega⟩
    · rw [w64 _ (by omega) (by omega), if_neg (by omega)]
    · rw [w64 _ (by omega) (by omega), if_neg (by omega)]
  · rw [← hb] at h1 h3
    by_cases hc : y ≤ x
    · refine ⟨x - y, 18446744073709551616 + x - y - b, 4294967296 + x - y - b, 1, ?_, ?_, by omega, by omega, by omega, by omega, by omega, by omega, h2.symm, h3, by omega, by omega⟩
      · rw [w64 _ (by omega) (by omega), if_neg (by omega)]
      · rw [w64 _ (by omega) (by omega), if_pos (by omega)]; omega
    · refine ⟨18446744073709551616 + x - y, 18446744073709551616 + x - y - b, 4294967296 + x - y - b, 1, ?_, ?_, by omega, by omega, by omega, by omega, by omega, by omega, h2.symm, h3, by omega, by omega⟩
      · rw [w64 _ (by omega) (by omega), if_pos (by omega)]; omega
      · rw [w64 _ (by omega) (by omega), if_neg (by omega)]
theorem bw_high {X D i n : Nat} (h : i ≤ n) : bw (X + 4294967296 ^ n) D i = bw X D i := by
  unfold bw
  have hp : 4294967296 ^ n = 4294967296 ^ i * 4294967296 ^ (n - i) := by rw [← Nat.pow_add, show i + (n - i) = n by omega]
  rw [hp, Nat.add_mul_mod_self_left]
theorem dig_plus {X i n : Nat} (h : i < n) : (X + 4294967296 ^ n) / 4294967296 ^ i % 4294967296 = X / 4294967296 ^ i % 4294967296 := by
  have hp : 4294967296 ^ n = 4294967296 ^ i * (4294967296 * 4294967296 ^ (n - i - 1)) := by
    conv => lhs; rw [show n = i + (1 + (n - i - 1)) by omega, Nat.pow_add, Nat.pow_add, Nat.pow_one]
  rw [hp, Nat.add_mul_div_left _ _ (pw_pos i), Nat.add_mul_mod_self_left]
/-- The carry of a product. -/
theorem prod_nums {V d i v c : Nat} (hd : d < 4294967296) (hv : v = V / 4294967296 ^ i % 4294967296) (hc : c = cyM 0 d V 0 i) :
    ∃ (P C : Int) (y c' : Nat), IntKind.u64.wrap ((d : Int) * v) = P ∧ IntKind.u64.wrap ((c : Int) + P) = C ∧ C % 4294967296 = y ∧ C / 4294967296 = c' ∧ 0 ≤ P ∧ P ≤ 18446744073709551615 ∧ 0 ≤ C ∧ C ≤ 18446744073709551615 ∧ y = d * V / 4294967296 ^ i % 4294967296 ∧ c' = cyM 0 d V 0 (i + 1) ∧ y < 4294967296 ∧ c' < 4294967296 := by
  obtain ⟨N1, N2, N3, y, c', h1, h2, h3, h4, h5, n1, n2, n3, n4, n5, n6, h6, h7, h8, h9⟩ := mul_nums (N := 0) (w := d) (Y := V) (i := 0) (k := i) (y := v) (o := 0) (S := d * V) hd (by simp) hv (by simp) hc
  have e : N2 = N1 := by rw [← h2, show N1 + ((0 : Nat) : Int) = N1 by simp]; exact IntWalk.u64_in _ ⟨n1, n2⟩
  subst e
  exact ⟨N2, N3, y, c', h1, h3, h4, h5, n1, n2, n5, n6, by rw [← h7, Nat.zero_add], h6, h8, h9⟩

set_option maxHeartbeats 4000000 in
theorem takeAway_any (gu cu k n M U gv cv mv V d D W Z : Nat) (w : World) (hM : M ≤ 30000) (hk : k + n + 1 ≤ M) (hX : Blk w gu 134 (wC (wDig M U))) (hU : U < 4294967296 ^ (k + n + 1)) (hV : Blk w gv 134 (wC (wDig mv V))) (hn : n ≤ mv) (hVl : V < 4294967296 ^ n) (hd : d < 4294967296) (hne : gv ≠ gu)
    (hD : D = d * V) (hW : W = U / 4294967296 ^ k) (hZ : Z = W + 4294967296 ^ (n + 1) - D) (hnc : n + 1 ≤ cu) :
    Calls Tryz.prog 116 #[.slice (some ⟨gu, k, none⟩) (n + 1 : Nat) cu, .slice (some ⟨gv, 0, none⟩) n cv, .int .u64 d] w fun e w' => e = .returned (.bool (decide (W < D))) ∧ Blk w' gu 134 (wC (wDig M (U % 4294967296 ^ k + 4294967296 ^ k * (Z % 4294967296 ^ (n + 1))))) ∧ GrB w w' (some gu) := by
  have hDl : D < 4294967296 ^ (n + 1) := by
    rw [hD, Nat.pow_succ, Nat.mul_comm]
    rcases Nat.eq_zero_or_pos d with h | h
    · subst h
      rw [Nat.mul_zero]
      exact Nat.mul_pos (pw_pos n) (by decide)
    · exact Nat.lt_of_lt_of_le (Nat.mul_lt_mul_of_pos_right hVl h) (Nat.mul_le_mul_left _ (Nat.le_of_lt hd))
  have hWl : W < 4294967296 ^ (n + 1) := by
    rw [hW, Nat.div_lt_iff_lt_mul (pw_pos k), ← Nat.pow_add, show n + 1 + k = k + n + 1 by omega]
    exact hU
  have HD := Lib.hid hD
  have HW := Lib.hid hW
  have HZ := Lib.hid hZ
  have HDl := Lib.hid hDl
  have HWl := Lib.hid hWl
  have HU := Lib.hid hU
  have HVl := Lib.hid hVl
  have HNE := Lib.hid hne
  have Y0 := Lib.hid hV
  have X0 : Hid (Blk w gu 134 (wC (kPart M U Z k 0))) := by unfold Hid; rw [kPart_zero]; exact hX
  have HLE : Hid (D ≤ W + 4294967296 ^ (n + 1)) := by unfold Hid; omega
  clear hD hW hZ hDl hWl hU hVl hne hV hX
  go_enter Tryz.func116, Tryz.ntmps116
  go_wp2_with fail
  go_loopw [7, 8, 15] (fun c b i wr => ∃ j : Nat, i = .int .i64 j ∧ j ≤ n ∧ c = .int .u64 (cyM 0 d V 0 j) ∧ b = .int .u64 (bw (W + 4294967296 ^ (n + 1)) D j) ∧ Hid (Blk wr gu 134 (wC (kPart M U Z k j))) ∧ Hid (GrB w wr (some gu))) (fun _ _ i _ => n - (intOf i).toNat)
  case atStart => exact ⟨0, rfl, by omega, by rw [cyM_zero]; rfl, by rw [bw_zero]; rfl, X0, GrB.refl w _⟩
  case round =>
    clear X0
    obtain ⟨j, rfl, hj, rfl, rfl, XX, GG⟩ := hrel
    obtain ⟨c, hc⟩ : ∃ c, c = cyM 0 d V 0 j := ⟨_, rfl⟩
    obtain ⟨b, hb⟩ : ∃ b, b = bw (W + 4294967296 ^ (n + 1)) D j := ⟨_, rfl⟩
    obtain ⟨x, hx⟩ : ∃ x, x = (W + 4294967296 ^ (n + 1)) / 4294967296 ^ j % 4294967296 := ⟨_, rfl⟩
    have hcl : c < 4294967296 := by rw [hc]; exact cyM_lt hd
    have hbl : b ≤ 1 := by rw [hb]; exact bw_le _ _ _
    have hxl : x < 4294967296 := by rw [hx]; exact dig_lt _ _
    obtain ⟨p, hp⟩ : ∃ p, p = k + j := ⟨_, rfl⟩
    have hpm : p < M := by omega
    have cX : wr.cell? ⟨gu, p, none⟩ = some (.int .u32 x) := by
      rw [XX.out.cell]
      refine wC_at ?_
      rw [hp, kPart_next (by omega), hx, dig_plus (by omega), HW.out]
    have fX := XX.out.frozen p
    have cX' : wr.cell? ⟨gu, k + j, none⟩ = some (.int .u32 x) := by rw [← hp]; exact cX
    have fX' : wr.frozen? ⟨gu, k + j, none⟩ = false := by rw [← hp]; exact fX
    clear cX fX
    by_cases hlt : j < n
    · obtain ⟨v, hv⟩ : ∃ v, v = V / 4294967296 ^ j % 4294967296 := ⟨_, rfl⟩
      have hvl : v < 4294967296 := by rw [hv]; exact dig_lt _ _
      obtain ⟨P, C, y, c', p1, p2, p3, p4, p5, p6, p7, p8, p9, p10, p11, p12⟩ := prod_nums hd hv hc
      rw [← HD.out] at p9
      obtain ⟨N1, N, z, b', q1, q2, q3, q4, q5, q6, q7, q8, q9, q10, q11, q12⟩ := take_nums HLE.out hx p9 hb
      rw [← HZ.out] at q10
      have cV : wr.cell? ⟨gv, j, none⟩ = some (.int .u32 v) := by
        rw [(Y0.out.grown GG.out (by simpa using HNE.out)).cell, hv]; exact wC_at (wDig_at (by omega))
      have X2 : Hid (Blk (wr.setCell ⟨gu, k + j, none⟩ (.int .u32 z)) gu 134 (wC (kPart M U Z k (j + 1)))) := by
        unfold Hid
        rw [kPart_step (by omega) q10, ← wC_set]
        exact XX.out.set_ (k + j) _
      have G2 := Lib.hid (grown_set GG.out (k + j) (.int .u32 z))
      have H9 : Hid ((.int .u64 (b' : Int) : Value) = .int .u64 (bw (W + 4294967296 ^ (n + 1)) D (j + 1))) := by unfold Hid; rw [q9]
      have H10 : Hid ((.int .u64 (c' : Int) : Value) = .int .u64 (cyM 0 d V 0 (j + 1))) := by unfold Hid; rw [p10]
      rw [← hc, ← hb]
      clear hx hb hc hv hp p9 p10 q9 q10
      go_wp2_with fail
      go_roundw
      case rel => exact ⟨j + 1, by go_num, by omega, H10.out, H9.out, X2, G2⟩
      case measure => simp [intOf]; omega
    · have hjn : j = n := by omega
      subst hjn
      have hcy : c = D / 4294967296 ^ j % 4294967296 := by
        have e : c = D / 4294967296 ^ j := by
          rw [hc, HD.out]; unfold cyM
          rw [Nat.zero_mod, Nat.zero_add, Nat.zero_add, Nat.pow_zero, Nat.mul_one, Nat.mod_eq_of_lt HVl.out]
        rw [← e]; exact (Nat.mod_eq_of_lt hcl).symm
      obtain ⟨N1, N, z, b', q1, q2, q3, q4, q5, q6, q7, q8, q9, q10, q11, q12⟩ := take_nums HLE.out hx hcy hb
      rw [← HZ.out] at q10
      have X2 : Hid (Blk (wr.setCell ⟨gu, k + j, none⟩ (.int .u32 z)) gu 134 (wC (wDig M (U % 4294967296 ^ k + 4294967296 ^ k * (Z % 4294967296 ^ (j + 1)))))) := by
        unfold Hid
        rw [← kPart_all (by omega) HU.out, kPart_step (by omega) q10, ← wC_set]
        exact XX.out.set_ (k + j) _
      have G2 := Lib.hid (grown_set GG.out (k + j) (.int .u32 z))
      have H9 : Hid (decide (0 < b') = decide (W < D)) := by
        unfold Hid
        rw [q9, bw_high (Nat.le_refl _)]
        unfold bw
        rw [Nat.mod_eq_of_lt HWl.out, Nat.mod_eq_of_lt HDl.out]
        by_cases h : W < D
        · simp [h]
        · simp [h]
      rw [← hc, ← hb]
      clear hx hb hc hp hcy q9 q10
      go_wp2_with fail
      go_ret
      exact ⟨congrArg (fun b => Ending.returned (.bool b)) H9.out, X2.out, G2.out⟩

theorem back_nums {X Y i x y c : Nat} (hx : x = X / 4294967296 ^ i % 4294967296) (hy : y = Y / 4294967296 ^ i % 4294967296) (hc : c = cyA X Y i) :
    ∃ (N1 N : Int) (d c' : Nat), IntKind.u64.wrap ((x : Int) + y) = N1 ∧ IntKind.u64.wrap ((c : Int) + N1) = N ∧ N % 4294967296 = d ∧ N / 4294967296 = c' ∧ 0 ≤ N1 ∧ N1 ≤ 18446744073709551615 ∧ 0 ≤ N ∧ N ≤ 18446744073709551615 ∧ c' = cyA X Y (i + 1) ∧ (X + Y) / 4294967296 ^ i % 4294967296 = d ∧ d < 4294967296 ∧ c' ≤ 1 := by
  have hxl : x < 4294967296 := by rw [hx]; exact dig_lt X i
  have hyl : y < 4294967296 := by rw [hy]; exact dig_lt Y i
  have hcl := cyA_le X Y i
  obtain ⟨h1, h2⟩ := cyA_step hx hy
  rw [← hc] at h1 h2 hcl
  have hc2 := cyA_le X Y (i + 1)
  refine ⟨x + y, c + (x + y), (c + x + y) % 4294967296, (c + x + y) / 4294967296, IntWalk.u64_in _ (by omega), IntWalk.u64_in _ (by omega), by omega, by omega, by omega, by omega, by omega, by omega, h2.symm, h1, by omega, by rw [← h2]; exact hc2⟩

set_option maxHeartbeats 4000000 in
theorem putBack_any (gu cu k n M U gv cv mv V W : Nat) (w : World) (hM : M ≤ 30000) (hk : k + n + 1 ≤ M) (hX : Blk w gu 134 (wC (wDig M U))) (hU : U < 4294967296 ^ (k + n + 1)) (hV : Blk w gv 134 (wC (wDig mv V))) (hn : n ≤ mv) (hVl : V < 4294967296 ^ n) (hne : gv ≠ gu)
    (hW : W = U / 4294967296 ^ k) (hnc : n + 1 ≤ cu) :
    Calls Tryz.prog 117 #[.slice (some ⟨gu, k, none⟩) (n + 1 : Nat) cu, .slice (some ⟨gv, 0, none⟩) n cv] w fun e w' => e = .returned (.tuple #[]) ∧ Blk w' gu 134 (wC (wDig M (U % 4294967296 ^ k + 4294967296 ^ k * ((W + V) % 4294967296 ^ (n + 1))))) ∧ GrB w w' (some gu) := by
  have HW := Lib.hid hW
  have HU := Lib.hid hU
  have HVl := Lib.hid hVl
  have HNE := Lib.hid hne
  have Y0 := Lib.hid hV
  have X0 : Hid (Blk w gu 134 (wC (kPart M U (W + V) k 0))) := by unfold Hid; rw [kPart_zero]; exact hX
  clear hW hU hVl hne hV hX
  go_enter Tryz.func117, Tryz.ntmps117
  go_wp2_with fail
  go_loopw [4, 9] (fun c i wr => ∃ j : Nat, i = .int .i64 j ∧ j ≤ n ∧ c = .int .u64 (cyA W V j) ∧ Hid (Blk wr gu 134 (wC (kPart M U (W + V) k j))) ∧ Hid (GrB w wr (some gu))) (fun _ i _ => n - (intOf i).toNat)
  case atStart => exact ⟨0, rfl, by omega, by rw [cyA_zero]; rfl, X0, GrB.refl w _⟩
  case round =>
    clear X0
    obtain ⟨j, rfl, hj, rfl, XX, GG⟩ := hrel
    obtain ⟨c, hc⟩ : ∃ c, c = cyA W V j := ⟨_, rfl⟩
    obtain ⟨x, hx⟩ : ∃ x, x = W / 4294967296 ^ j % 4294967296 := ⟨_, rfl⟩
    have hcl : c ≤ 1 := by rw [hc]; exact cyA_le _ _ _
    have hxl : x < 4294967296 := by rw [hx]; exact dig_lt _ _
    have cX' : wr.cell? ⟨gu, k + j, none⟩ = some (.int .u32 x) := by
      rw [XX.out.cell]
      refine wC_at ?_
      rw [kPart_next (by omega), hx, HW.out]
    have fX' := XX.out.frozen (k + j)
    by_cases hlt : j < n
    · obtain ⟨v, hv⟩ : ∃ v, v = V / 4294967296 ^ j % 4294967296 := ⟨_, rfl⟩
      have hvl : v < 4294967296 := by rw [hv]; exact dig_lt _ _
      obtain ⟨N1, N, z, c', q1, q2, q3, q4, q5, q6, q7, q8, q9, q10, q11, q12⟩ := back_nums hx hv hc
      have cV : wr.cell? ⟨gv, j, none⟩ = some (.int .u32 v) := by
        rw [(Y0.out.grown GG.out (by simpa using HNE.out)).cell, hv]; exact wC_at (wDig_at (by omega))
      have X2 : Hid (Blk (wr.setCell ⟨gu, k + j, none⟩ (.int .u32 z)) gu 134 (wC (kPart M U (W + V) k (j + 1)))) := by
        unfold Hid
        rw [kPart_step (by omega) q10, ← wC_set]
        exact XX.out.set_ (k + j) _
      have G2 := Lib.hid (grown_set GG.out (k + j) (.int .u32 z))
      have H9 : Hid ((.int .u64 (c' : Int) : Value) = .int .u64 (cyA W V (j + 1))) := by unfold Hid; rw [q9]
      rw [← hc]
      clear hx hc hv q9 q10
      go_wp2_with fail
      go_roundw
      case rel => exact ⟨j + 1, by go_num, by omega, H9.out, X2, G2⟩
      case measure => simp [intOf]; omega
    · have hjn : j = n := by omega
      subst hjn
      have hv0 : 0 = V / 4294967296 ^ j % 4294967296 := (dig_high HVl.out (Nat.le_refl _)).symm
      obtain ⟨h1, h2⟩ := cyA_step hx hv0
      rw [← hc, Nat.add_zero] at h1
      obtain ⟨z, hz⟩ : ∃ z, z = (c + x) % 4294967296 := ⟨_, rfl⟩
      rw [← hz] at h1
      have hw1 : IntKind.u32.wrap ((x : Int) + c) = (z : Int) := by
        have : IntKind.u32.wrap ((x : Int) + c) = ((x : Int) + c) % 4294967296 := by simp [IntKind.wrap, IntKind.bits, IntKind.signed]
        rw [this, hz]; omega
      have hw2 : ((x : Int) + c) % 4294967296 = (z : Int) := by omega
      have hcm : (c : Int) % 4294967296 = c := by omega
      have hzl : z < 4294967296 := by omega
      have X2 : Hid (Blk (wr.setCell ⟨gu, k + j, none⟩ (.int .u32 z)) gu 134 (wC (wDig M (U % 4294967296 ^ k + 4294967296 ^ k * ((W + V) % 4294967296 ^ (j + 1)))))) := by
        unfold Hid
        rw [← kPart_all (by omega) HU.out, kPart_step (by omega) h1, ← wC_set]
        exact XX.out.set_ (k + j) _
      have G2 := Lib.hid (grown_set GG.out (k + j) (.int .u32 z))
      rw [← hc]
      clear hx hc hv0 h1 h2 hz
      go_wp2_with fail
      go_end0
      exact ⟨rfl, X2.out, G2.out⟩
end Go.Proofs.YtmfejdikfpckdaaGreatDoor
