/- The walk of nat.long (long division by several words). Printed by gen/numj.py. · The walk of nat.Div for numbers of any length. Printed by gen/numk.py. -/
import Derived.Test.YtmfejdikfpckdaaGreatDoorFc13
import Derived.Test.YtmfejdikfpckdaaGreatDoorFc4
import Derived.Deep.DeepCutAuto
import Derived.Deep.CutBlock
import Derived.Deep.RegionLaw
namespace Go.Proofs.YtmfejdikfpckdaaGreatDoor
open Go.RowKit
set_option linter.unusedVariables false
set_option maxRecDepth 100000

/-- The top word of a normalized number. -/
theorem top_lt {V n v1 : Nat} (hV : V < 4294967296 ^ n) (hn : 2 ≤ n) (h1 : v1 = V / 4294967296 ^ (n - 1)) : v1 < 4294967296 ∧ V = v1 * 4294967296 ^ (n - 1) + V % 4294967296 ^ (n - 1) ∧ V % 4294967296 ^ (n - 1) < 4294967296 ^ (n - 1) := by
  have e : 4294967296 ^ n = 4294967296 * 4294967296 ^ (n - 1) := by rw [Nat.mul_comm, ← Nat.pow_succ, show (n - 1).succ = n by omega]
  have h2 := Nat.div_add_mod V (4294967296 ^ (n - 1))
  rw [← h1, Nat.mul_comm] at h2
  refine ⟨?_, h2.symm, Nat.mod_lt _ (pw_pos _)⟩
  rw [h1, Nat.div_lt_iff_lt_mul (pw_pos _), ← e]
  exact hV
theorem two_top {X n : Nat} (hn : 2 ≤ n) : X / 4294967296 ^ (n - 2) = X / 4294967296 ^ (n - 1) * 4294967296 + X / 4294967296 ^ (n - 2) % 4294967296 := by
  have := Nat.div_add_mod (X / 4294967296 ^ (n - 2)) 4294967296
  rw [Nat.div_div_eq_div_mul, ← Nat.pow_succ, show (n - 2).succ = n - 1 by omega] at this
  omega
theorem est_low {V W n d D2 : Nat} (hn : 2 ≤ n) (hd : W / 4294967296 ^ (n - 2) < d * (V / 4294967296 ^ (n - 2))) : W < d * V := by
  have h1 := Nat.div_add_mod W (4294967296 ^ (n - 2))
  have h2 := Nat.mod_lt W (pw_pos (n - 2))
  have h3 := Nat.div_mul_le_self V (4294967296 ^ (n - 2))
  have h4 := Nat.mul_le_mul_left d h3
  have h5 : (W / 4294967296 ^ (n - 2) + 1) * 4294967296 ^ (n - 2) ≤ d * (V / 4294967296 ^ (n - 2)) * 4294967296 ^ (n - 2) := Nat.mul_le_mul_right _ hd
  rw [← Nat.mul_assoc] at h4
  rw [Nat.add_mul, Nat.one_mul, Nat.mul_comm (W / _)] at h5
  omega
theorem est_high {V W n d : Nat} (hn : 2 ≤ n) (hd : d * (V / 4294967296 ^ (n - 2)) ≤ W / 4294967296 ^ (n - 2)) (hdl : d < 4294967296) (hV : 4294967296 ^ (n - 1) ≤ V) : d * V < W + V := by
  have h1 := Nat.div_mul_le_self W (4294967296 ^ (n - 2))
  have e : 4294967296 ^ (n - 1) = 4294967296 * 4294967296 ^ (n - 2) := by rw [Nat.mul_comm, ← Nat.pow_succ, show (n - 2).succ = n - 1 by omega]
  rcases Nat.eq_zero_or_pos d with h | h
  · subst h
    have := pw_pos (n - 1)
    omega
  · have h2 : V < (V / 4294967296 ^ (n - 2) + 1) * 4294967296 ^ (n - 2) := by
      have := Nat.div_add_mod V (4294967296 ^ (n - 2))
      have h3 := Nat.mod_lt V (pw_pos (n - 2))
      rw [Nat.add_mul, Nat.one_mul, Nat.mul_comm (V / _)]
      omega
    have h3 : d * V < d * ((V / 4294967296 ^ (n - 2) + 1) * 4294967296 ^ (n - 2)) := Nat.mul_lt_mul_of_pos_left h2 h
    have h4 : d * ((V / 4294967296 ^ (n - 2) + 1) * 4294967296 ^ (n - 2)) = d * (V / 4294967296 ^ (n - 2)) * 4294967296 ^ (n - 2) + d * 4294967296 ^ (n - 2) := by
      rw [← Nat.mul_assoc, Nat.mul_add, Nat.mul_one, Nat.add_mul]
    have h5 := Nat.mul_le_mul_right (4294967296 ^ (n - 2)) hd
    have h6 : d * 4294967296 ^ (n - 2) ≤ 4294967296 * 4294967296 ^ (n - 2) := Nat.mul_le_mul_right _ (Nat.le_of_lt hdl)
    omega
/-- What is known of the estimate d of the quotient of W by V, and of the rest. -/
structure Est (V W n v1 d rest : Nat) : Prop where
  low : W < (d + 1) * V
  sum : d * v1 + rest = W / 4294967296 ^ (n - 1)
  d1 : d ≤ 4294967297
  r1 : rest < 4294967296
theorem Est.start {V W n v1 d rest T : Nat} (hn : 2 ≤ n) (hV : V < 4294967296 ^ n) (h1 : v1 = V / 4294967296 ^ (n - 1)) (hv : 2147483648 ≤ v1) (hW : W < V * 4294967296) (hT : T = W / 4294967296 ^ (n - 1)) (hd : d = T / v1) (hr : rest = T % v1) : Est V W n v1 d rest := by
  obtain ⟨a1, a2, a3⟩ := top_lt hV hn h1
  have e := Nat.div_add_mod T v1
  have hm := Nat.mod_lt T (show 0 < v1 by omega)
  have hTl : T < (v1 + 1) * 4294967296 := by
    rw [hT, Nat.div_lt_iff_lt_mul (pw_pos _)]
    refine Nat.lt_of_lt_of_le hW ?_
    rw [Nat.mul_assoc, Nat.mul_comm 4294967296, ← Nat.mul_assoc]
    refine Nat.mul_le_mul_right _ ?_
    rw [Nat.add_mul, Nat.one_mul]
    omega
  rw [← hd, ← hr] at e
  rw [← hr] at hm
  refine ⟨?_, by rw [← hT, Nat.mul_comm]; exact e, ?_, by omega⟩
  · have h2 := Nat.div_add_mod W (4294967296 ^ (n - 1))
    have h3 := Nat.mod_lt W (pw_pos (n - 1))
    rw [← hT] at h2
    have h4 : T + 1 ≤ (d + 1) * v1 := by rw [Nat.add_mul, Nat.one_mul, Nat.mul_comm d]; omega
    have h5 := Nat.mul_le_mul_right (4294967296 ^ (n - 1)) h4
    have h6 : v1 * 4294967296 ^ (n - 1) ≤ V := by omega
    have h7 := Nat.mul_le_mul_left (d + 1) h6
    rw [← Nat.mul_assoc] at h7
    rw [Nat.add_mul T, Nat.one_mul, Nat.mul_comm T] at h5
    omega
  · rw [hd, ← Nat.lt_succ_iff, Nat.div_lt_iff_lt_mul (by omega)]
    rw [Nat.add_mul, Nat.one_mul, Nat.mul_comm v1] at hTl
    omega
/-- The test says that the estimate is too great. -/
theorem Est.down {V W n v1 d rest : Nat} (E : Est V W n v1 d rest) (hn : 2 ≤ n) (h1 : v1 = V / 4294967296 ^ (n - 1)) (hW : W < V * 4294967296)
    (ht : 4294967296 ≤ d ∨ rest * 4294967296 + W / 4294967296 ^ (n - 2) % 4294967296 < d * (V / 4294967296 ^ (n - 2) % 4294967296)) : 1 ≤ d ∧ W < d * V := by
  have hd : W < d * V := by
    rcases ht with h | h
    · refine Nat.lt_of_lt_of_le hW ?_
      rw [Nat.mul_comm V]
      exact Nat.mul_le_mul_right _ h
    · refine est_low (D2 := 0) hn ?_
      rw [two_top (X := W) hn, two_top (X := V) hn, ← h1, ← E.sum]
      rw [Nat.add_mul, Nat.mul_add, Nat.mul_assoc]
      omega
  refine ⟨?_, hd⟩
  rcases Nat.eq_zero_or_pos d with h | h
  · subst h; omega
  · exact h
/-- The test says that it is good. -/
theorem Est.good {V W n v1 d rest : Nat} (E : Est V W n v1 d rest) (hn : 2 ≤ n) (h1 : v1 = V / 4294967296 ^ (n - 1)) (hv : 2147483648 ≤ v1)
    (hd : d < 4294967296) (ht : d * (V / 4294967296 ^ (n - 2) % 4294967296) ≤ rest * 4294967296 + W / 4294967296 ^ (n - 2) % 4294967296) : d * V < W + V := by
  refine est_high hn ?_ hd ?_
  · rw [two_top (X := W) hn, two_top (X := V) hn, ← h1, ← E.sum]
    rw [Nat.add_mul, Nat.mul_add, Nat.mul_assoc]
    omega
  · have := Nat.div_mul_le_self V (4294967296 ^ (n - 1))
    rw [← h1] at this
    exact Nat.le_trans (Nat.le_mul_of_pos_left _ (by omega)) this
/-- Behind a step down, where the rest is one word still. -/
theorem Est.next {V W n v1 d rest : Nat} (E : Est V W n v1 (d + 1) rest) (hd : W < (d + 1) * V) (hr : rest + v1 < 4294967296) : Est V W n v1 d (rest + v1) :=
  ⟨hd, by have := E.sum; rw [Nat.add_mul, Nat.one_mul] at this; omega, by have := E.d1; omega, hr⟩
/-- .. where it is more. -/
theorem Est.leave {V W n v1 d rest : Nat} (E : Est V W n v1 (d + 1) rest) (hn : 2 ≤ n) (hV : V < 4294967296 ^ n) (h1 : v1 = V / 4294967296 ^ (n - 1)) (hv : 2147483648 ≤ v1) (hW : W < V * 4294967296) (hr : 4294967296 ≤ rest + v1) : d < 4294967296 ∧ d * V < W + V := by
  obtain ⟨a1, a2, a3⟩ := top_lt hV hn h1
  have hs : d * v1 + (rest + v1) = W / 4294967296 ^ (n - 1) := by have := E.sum; rw [Nat.add_mul, Nat.one_mul] at this; omega
  have hTl : W / 4294967296 ^ (n - 1) < (v1 + 1) * 4294967296 := by
    rw [Nat.div_lt_iff_lt_mul (pw_pos _)]
    refine Nat.lt_of_lt_of_le hW ?_
    rw [Nat.mul_assoc, Nat.mul_comm 4294967296, ← Nat.mul_assoc]
    refine Nat.mul_le_mul_right _ ?_
    rw [Nat.add_mul, Nat.one_mul]
    omega
  have hdl : d < 4294967296 := by
    rcases Nat.lt_or_ge d 4294967296 with h | h
    · exact h
    · have := Nat.mul_le_mul_right v1 h
      rw [Nat.add_mul, Nat.one_mul, Nat.mul_comm v1] at hTl
      omega
  refine ⟨hdl, est_high hn ?_ hdl ?_⟩
  · rw [two_top (X := W) hn, two_top (X := V) hn, ← h1, ← hs]
    have h3 := Nat.mod_lt (V / 4294967296 ^ (n - 2)) (show 0 < 4294967296 by decide)
    have h4 : d * (V / 4294967296 ^ (n - 2) % 4294967296) ≤ 4294967295 * 4294967295 := Nat.mul_le_mul (by omega) (by omega)
    rw [Nat.mul_add, ← Nat.mul_assoc, Nat.add_mul]
    omega
  · have := Nat.div_mul_le_self V (4294967296 ^ (n - 1))
    rw [← h1] at this
    exact Nat.le_trans (Nat.le_mul_of_pos_left _ (by omega)) this

/-- What a round does to the number. -/
theorem round_nums {U0 V k W q U : Nat} (hV : 0 < V) (hU : U = U0 % (V * 4294967296 ^ (k + 1))) (hW : W = U / 4294967296 ^ k) (hq : q = W / V) :
    W < V * 4294967296 ∧ q < 4294967296 ∧ U0 / V / 4294967296 ^ k % 4294967296 = q ∧ U0 % (V * 4294967296 ^ k) = U % 4294967296 ^ k + 4294967296 ^ k * (W - q * V) := by
  have hA := pw_pos k
  have e1 : V * 4294967296 ^ (k + 1) = V * 4294967296 ^ k * 4294967296 := by rw [Nat.pow_succ, Nat.mul_assoc]
  have hUl : U < V * 4294967296 ^ k * 4294967296 := by rw [hU, e1]; exact Nat.mod_lt _ (Nat.mul_pos (Nat.mul_pos hV hA) (by decide))
  have hWl : W < V * 4294967296 := by
    rw [hW, Nat.div_lt_iff_lt_mul hA, Nat.mul_assoc, Nat.mul_comm 4294967296, ← Nat.mul_assoc]
    exact hUl
  have e2 : U / (V * 4294967296 ^ k) = q := by rw [hq, hW, Nat.div_div_eq_div_mul, Nat.mul_comm V]
  refine ⟨hWl, ?_, ?_, ?_⟩
  · rw [hq, Nat.div_lt_iff_lt_mul hV, Nat.mul_comm]; exact hWl
  · rw [Nat.div_div_eq_div_mul, ← Nat.mod_mul_right_div_self, ← e1, ← hU, e2]
  · have e3 : U0 % (V * 4294967296 ^ k) = U % (V * 4294967296 ^ k) := by rw [hU, e1, Nat.mod_mul_right_mod]
    have e4 : W - q * V = W % V := by
      have := Nat.div_add_mod W V
      rw [← hq, Nat.mul_comm V] at this
      omega
    rw [e3, e4, hW, Nat.mul_comm V, Nat.mod_mul]
/-- The borrow tells whether the estimate was too great by one. -/
theorem borrow_nums {W V d q M D Z : Nat} (hV : 0 < V) (hq : q = W / V) (h1 : W < (d + 1) * V) (h2 : d * V < W + V) (hWM : W < M) (hVM : V ≤ M) (hD : D = d * V) (hZ : Z = W + M - D) :
    (W < D ∧ d = q + 1 ∧ Z % M = W + M - D ∧ (W + M - D + V) % M = W - q * V) ∨ (¬ W < D ∧ d = q ∧ Z % M = W - q * V) := by
  have e := Nat.div_add_mod W V
  have hm := Nat.mod_lt W hV
  rw [← hq] at e
  have q1 : d ≤ q + 1 := by
    rcases Nat.lt_or_ge (q + 1) d with h | h
    · have := Nat.mul_le_mul_right V (show q + 2 ≤ d from h)
      rw [Nat.add_mul, Nat.mul_comm q] at this
      omega
    · exact h
  have q2 : q ≤ d := by
    rcases Nat.lt_or_ge d q with h | h
    · have := Nat.mul_le_mul_right V (show d + 1 ≤ q from h)
      rw [Nat.mul_comm q] at this
      omega
    · exact h
  rcases (show d = q ∨ d = q + 1 by omega) with h | h
  · right
    rw [h] at hD
    rw [Nat.mul_comm] at hD
    have hle : D ≤ W := by omega
    refine ⟨by omega, h, ?_⟩
    rw [hZ, show W + M - D = W - q * V + M by rw [Nat.mul_comm q]; omega, Nat.add_mod_right]
    exact Nat.mod_eq_of_lt (by omega)
  · left
    rw [h, Nat.add_mul, Nat.one_mul, Nat.mul_comm q] at hD
    refine ⟨by omega, h, ?_, ?_⟩
    · rw [hZ]; exact Nat.mod_eq_of_lt (by omega)
    · rw [show W + M - D + V = W - q * V + M by rw [Nat.mul_comm q]; omega, Nat.add_mod_right]
      exact Nat.mod_eq_of_lt (by omega)

theorem norm_nums {Y n t s : Nat} (hn : 2 ≤ n) (hYl : Y < 4294967296 ^ n) (hYt : 4294967296 ^ (n - 1) ≤ Y) (ht : t = Y / 4294967296 ^ (n - 1)) (hs : s = 32 - Lib.bitLen t) :
    0 < t ∧ t < 4294967296 ∧ Lib.bitLen t ≤ 32 ∧ 1 ≤ Lib.bitLen t ∧ s ≤ 31 ∧ Y * 2 ^ s < 4294967296 ^ n ∧ 2147483648 ≤ Y * 2 ^ s / 4294967296 ^ (n - 1) := by
  have hP := pw_pos (n - 1)
  obtain ⟨a1, a2, a3⟩ := top_lt hYl hn ht
  have t0 : 0 < t := by rw [ht]; exact Nat.div_pos hYt hP
  obtain ⟨b1, b2, b3⟩ := Lib.bitLenAux_bounds 64 t (by omega) (by omega)
  have hb : Lib.bitLen t = Lib.bitLenAux 64 t := rfl
  rw [← hb] at b1 b2 b3
  have b4 : Lib.bitLen t ≤ 32 := Lib.bitLen_le t 32 (by decide) a1
  have hS : 0 < 2 ^ s := Nat.pow_pos (by decide)
  refine ⟨t0, a1, b4, b1, by omega, ?_, ?_⟩
  · have h1 : Y < (t + 1) * 4294967296 ^ (n - 1) := by rw [Nat.add_mul, Nat.one_mul]; omega
    have h2 := Nat.mul_lt_mul_of_pos_right h1 hS
    have h3 : (t + 1) * 2 ^ s ≤ 2 ^ (Lib.bitLen t) * 2 ^ s := Nat.mul_le_mul_right _ b3
    rw [← Nat.pow_add, show Lib.bitLen t + s = 32 by omega] at h3
    have h4 := Nat.mul_le_mul_right (4294967296 ^ (n - 1)) h3
    rw [show 4294967296 ^ n = 2 ^ 32 * 4294967296 ^ (n - 1) by rw [show (2 : Nat) ^ 32 = 4294967296 from rfl, Nat.mul_comm, ← Nat.pow_succ, show (n - 1).succ = n by omega]]
    refine Nat.lt_of_lt_of_le h2 (Nat.le_trans (Nat.le_of_eq ?_) h4)
    ac_rfl
  · rw [Nat.le_div_iff_mul_le hP]
    have h1 : t * 4294967296 ^ (n - 1) ≤ Y := by omega
    have h2 := Nat.mul_le_mul_right (2 ^ s) h1
    have h3 : 2 ^ (Lib.bitLen t - 1) * 2 ^ s ≤ t * 2 ^ s := Nat.mul_le_mul_right _ b2
    rw [← Nat.pow_add, show Lib.bitLen t - 1 + s = 31 by omega] at h3
    have h4 := Nat.mul_le_mul_right (4294967296 ^ (n - 1)) h3
    refine Nat.le_trans (Nat.le_trans h4 (Nat.le_of_eq ?_)) h2
    ac_rfl

theorem shr_nums {R s i x y : Nat} (hs : s ≤ 31) (hx : x = R / 4294967296 ^ i % 4294967296) (hy : y = R / 4294967296 ^ (i + 1) % 4294967296) :
    ∃ x0 T v0 z : Nat, (x : Int) / 2 ^ s = (x0 : Int) ∧ IntKind.u64.wrap ((y : Int) * 2 ^ (32 - s)) = (T : Int) ∧ (y : Int) * 2 ^ (32 - s) = (T : Int) ∧ (T : Int) % 4294967296 = (v0 : Int) ∧ bits .or .u32 (x0 : Int) (v0 : Int) = (z : Int) ∧ x0 < 4294967296 ∧ T ≤ 18446744073709551615 ∧ v0 < 4294967296 ∧ z < 4294967296 ∧
      R / 2 ^ s / 4294967296 ^ i % 4294967296 = z ∧ (y = 0 → z = x0) := by
  have hxl : x < 4294967296 := by rw [hx]; exact dig_lt _ _
  have hyl : y < 4294967296 := by rw [hy]; exact dig_lt _ _
  have hS : 0 < 2 ^ s := Nat.pow_pos (by decide)
  have hC : 0 < 2 ^ (32 - s) := Nat.pow_pos (by decide)
  have h32 := two32 (s := s) (by omega)
  have hCl : 2 ^ (32 - s) ≤ 4294967296 := show 2 ^ (32 - s) ≤ 2 ^ 32 from Nat.pow_le_pow_right (by decide) (by omega)
  have hT : y * 2 ^ (32 - s) ≤ 4294967295 * 4294967296 := Nat.mul_le_mul (by omega) hCl
  have hx0 : x / 2 ^ s < 2 ^ (32 - s) := by rw [Nat.div_lt_iff_lt_mul hS, Nat.mul_comm, ← h32]; exact hxl
  have hv0 : y * 2 ^ (32 - s) % 4294967296 = 2 ^ (32 - s) * (y % 2 ^ s) := by
    conv => lhs; rw [h32, Nat.mul_comm y, Nat.mul_comm (2 ^ s)]
    exact Nat.mul_mod_mul_left _ _ _
  have hor := or_low (o := x / 2 ^ s) (t := y % 2 ^ s) (s := 32 - s) hx0
  rw [← hv0] at hor
  have hsum : x / 2 ^ s + y * 2 ^ (32 - s) % 4294967296 < 4294967296 := by
    have h1 : y % 2 ^ s + 1 ≤ 2 ^ s := Nat.mod_lt y hS
    have h2 := Nat.mul_le_mul_left (2 ^ (32 - s)) h1
    rw [Nat.mul_comm (2 ^ (32 - s)) (2 ^ s), ← h32, Nat.mul_add, ← hv0] at h2
    omega
  have hdig : R / 2 ^ s / 4294967296 ^ i % 4294967296 = x / 2 ^ s + y * 2 ^ (32 - s) % 4294967296 := by
    have e1 : R / 4294967296 ^ i = x + 4294967296 * (R / 4294967296 ^ (i + 1)) := by
      have := Nat.div_add_mod (R / 4294967296 ^ i) 4294967296
      rw [Nat.div_div_eq_div_mul, ← Nat.pow_succ, ← hx] at this
      show R / 4294967296 ^ i = x + 4294967296 * (R / 4294967296 ^ i.succ)
      omega
    have e2 : R / 4294967296 ^ (i + 1) = y + 4294967296 * (R / 4294967296 ^ (i + 1) / 4294967296) := by
      have := Nat.div_add_mod (R / 4294967296 ^ (i + 1)) 4294967296
      rw [← hy] at this
      omega
    have e3 : R / 2 ^ s / 4294967296 ^ i = x / 2 ^ s + 2 ^ (32 - s) * (R / 4294967296 ^ (i + 1)) := by
      rw [Nat.div_div_eq_div_mul, Nat.mul_comm, ← Nat.div_div_eq_div_mul, e1]
      generalize R / 4294967296 ^ (i + 1) = H
      rw [show x + 4294967296 * H = x + 2 ^ s * (2 ^ (32 - s) * H) by rw [← Nat.mul_assoc, ← h32], Nat.add_mul_div_left _ _ hS]
    rw [e3, e2, Nat.mul_add, show 2 ^ (32 - s) * (4294967296 * (R / 4294967296 ^ (i + 1) / 4294967296)) = 4294967296 * (2 ^ (32 - s) * (R / 4294967296 ^ (i + 1) / 4294967296)) by ac_rfl, ← Nat.add_assoc, Nat.add_mul_mod_self_left, Nat.mul_comm (2 ^ (32 - s)) y, Nat.add_mod]
    rw [Nat.mod_eq_of_lt (show x / 2 ^ s < 4294967296 by omega)]
    exact Nat.mod_eq_of_lt hsum
  have hpi : ((2 : Int) ^ (32 - s)) = ((2 ^ (32 - s) : Nat) : Int) := by rw [Int.natCast_pow]; rfl
  have hpi2 : ((2 : Int) ^ s) = ((2 ^ s : Nat) : Int) := by rw [Int.natCast_pow]; rfl
  have hcast : (y : Int) * 2 ^ (32 - s) = ((y * 2 ^ (32 - s) : Nat) : Int) := by rw [hpi, Int.natCast_mul]
  have hy0 : y = 0 → y * 2 ^ (32 - s) % 4294967296 = 0 := fun e => by rw [e, Nat.zero_mul]
  generalize y * 2 ^ (32 - s) = T at *
  refine ⟨x / 2 ^ s, T, T % 4294967296, x / 2 ^ s + T % 4294967296, by rw [hpi2, Int.natCast_ediv], ?_, hcast, by omega, ?_, by omega, by omega, by omega, hsum, hdig, fun e => by rw [hy0 e, Nat.add_zero]⟩
  · rw [hcast]; exact IntWalk.u64_in _ (by omega)
  · rw [u32_or_nat (x / 2 ^ s) (T % 4294967296) (by omega) (by omega), hor]

set_option maxHeartbeats 8000000 in
theorem long_any (gx cx m X gy cy n Y : Nat) (w : World) (hm : m ≤ 25001) (hn : 2 ≤ n) (hnm : n ≤ m) (hX : Blk w gx 134 (wC (wDig m X))) (hXl : X < 4294967296 ^ m) (hY : Blk w gy 134 (wC (wDig n Y))) (hYl : Y < 4294967296 ^ n) (hYt : 4294967296 ^ (n - 1) ≤ Y) :
    Calls Tryz.prog 89 #[.slice (some ⟨gx, 0, none⟩) m cx, .slice (some ⟨gy, 0, none⟩) n cy] w fun e w' => ∃ gq gr, e = .returned (.tuple #[.slice (some ⟨gq, 0, none⟩) (m + 1 - n) (m + 1 - n), .slice (some ⟨gr, 0, none⟩) n (m + 1)]) ∧ Blk w' gq 134 (wC (wDig (m + 1 - n) (X / Y))) ∧ Blk w' gr 134 (wC (wDig (m + 1) (X % Y))) ∧ Below w.heap.size w w' := by
  obtain ⟨t, ht⟩ : ∃ t, t = Y / 4294967296 ^ (n - 1) := ⟨_, rfl⟩
  obtain ⟨s, hs⟩ : ∃ s, s = 32 - Lib.bitLen t := ⟨_, rfl⟩
  obtain ⟨t0, t1, b1, b2, s1, hV, hv⟩ := norm_nums hn hYl hYt ht hs
  have hsi : (32 : Int) - (Lib.bitLen (t : Int).toNat : Int) = (s : Int) := by rw [Int.toNat_natCast]; omega
  have cT : w.cell? ⟨gy, n - 1, none⟩ = some (.int .u32 t) := by
    rw [hY.cell]
    have := wDig_at (m := n) (n := Y) (j := n - 1) (by omega)
    rw [← ht, Nat.mod_eq_of_lt t1] at this
    exact wC_at this
  have LZ := fun w => Tryz.bits_LeadingZeros32 (t : Int) w (by omega) (by omega)
  rw [hsi] at LZ
  obtain ⟨V, hVV⟩ : ∃ V, V = Y * 2 ^ s := ⟨_, rfl⟩
  rw [← hVV] at hV hv
  have hn1 : ((n : Int) - 1) = ((n - 1 : Nat) : Int) := by omega
  have X0 : Hid (Blk w.drew gx 134 (wC (wDig m X))) := hX.drew
  have Y0 : Hid (Blk w.drew gy 134 (wC (wDig n Y))) := hY.drew
  have LX := Lib.hid hXl
  have LY := Lib.hid hYl
  have HVV := Lib.hid hVV
  have HV := Lib.hid hV
  have B0 : Hid (Below w.heap.size w w.drew) := (Below.refl w.heap.size w).drew
  clear hX hY hXl hYl hYt ht hs b1 b2 hsi hVV hV
  go_enter Tryz.func89, Tryz.ntmps89
  clear hn1
  go_wp2_with fail
  refine (LZ _).mono ?_
  rintro e w' ⟨rfl, rfl⟩
  clear LZ cT
  have hnle : (n : Int) ≤ (n : Int) + 1 := by omega
  go_upto_region 3 with fail
  go_cut [8, 9] (fun s8 s9 wx => ∃ gu gv cv : Nat, s8 = .slice (some ⟨gu, 0, none⟩) (m + 1) (m + 1) ∧ s9 = .slice (some ⟨gv, 0, none⟩) n (n + 1) ∧ w'.heap.size ≤ gu ∧ gu < gv ∧ Hid (Blk wx gu 134 (wC (wDig (m + 1) (X * 2 ^ s)))) ∧ Hid (Blk wx gv 134 (wC (wDig (n + 1) V))) ∧ Hid (Below w'.heap.size w' wx))
  case first =>
    go_region_law (go_simp; first | (go_at_call 115; (with_reducible refine (left_any gx _ m X s _ (by omega) s1 X0.out LX.out).mono ?_); rintro e wq ⟨gu, rfl, hgu, hU, hb⟩; have U1 := Lib.hid hU; have Y1 := Lib.hid (Y0.out.below hb Y0.out.lt); have B1 := Lib.hid (B0.out.trans (hb.mono B0.out.size)); have hgu2 := Nat.le_trans B0.out.size hgu; clear hU hb) | (go_at_call 115; (with_reducible refine (left_any gy _ n Y s _ (by omega) s1 Y1.out LY.out).mono ?_); rintro e wr ⟨gv, rfl, hgv, hV, hb⟩; have U2 := Lib.hid (U1.out.below hb U1.out.lt); have hlt := Nat.lt_of_lt_of_le U1.out.lt hgv; have V2 := Lib.hid hV; have B2 := Lib.hid (B1.out.trans (hb.mono B1.out.size)); clear hV hb))
    go_wp2_with fail
    go_meet
    case rel => exact ⟨gu, gv, n + 1, rfl, rfl, hgu2, hlt, U2, by unfold Hid; rw [HVV.out]; exact V2.out, B2⟩
  case rest =>
    obtain ⟨gu, gv, cv, rfl, rfl, hgu, hgv, UU, VV, BB⟩ := hcut
    clear X0 Y0 B0
    have hwc : gv < wc.heap.size := VV.out.lt
    obtain ⟨mq, hmq1, hmq2⟩ : ∃ mq, m + 1 ≤ mq + n ∧ mq + n ≤ m + 1 := ⟨m + 1 - n, by omega, by omega⟩
    have hmi : (m : Int) + 1 - n = (mq : Int) := by omega
    obtain ⟨U0, hU0⟩ : ∃ U0, U0 = X * 2 ^ s := ⟨_, rfl⟩
    rw [← hU0] at UU
    have hV0 : 0 < V := by
      rcases Nat.eq_zero_or_pos V with h | h
      · subst h; rw [Nat.zero_div] at hv; omega
      · exact h
    have hbig : U0 < V * 4294967296 ^ mq := by
      have h1 := Nat.div_mul_le_self V (4294967296 ^ (n - 1))
      have h2 : 2147483648 * 4294967296 ^ (n - 1) ≤ V := Nat.le_trans (Nat.mul_le_mul_right _ hv) h1
      have h3 := Nat.mul_le_mul_right (4294967296 ^ mq) h2
      have h4 : X * 2 ^ s < 4294967296 ^ m * 2 ^ s := Nat.mul_lt_mul_of_pos_right LX.out (Nat.pow_pos (by decide))
      have h5 : 2 ^ s ≤ 2147483648 := show 2 ^ s ≤ 2 ^ 31 from Nat.pow_le_pow_right (by decide) s1
      have h6 := Nat.mul_le_mul_left (4294967296 ^ m) h5
      have h7 : 4294967296 ^ m = 4294967296 ^ (n - 1) * 4294967296 ^ mq := by rw [← Nat.pow_add, show n - 1 + mq = m by omega]
      rw [hU0]
      refine Nat.lt_of_lt_of_le h4 (Nat.le_trans h6 (Nat.le_trans (Nat.le_of_eq ?_) h3))
      rw [h7]
      ac_rfl
    have hmk := run_make_row' (P := Tryz.prog) 132 134 (.int .u32 0) 4 Tryz.underlying132 info_u32 rfl .i64 .i64 mq (by omega) (by omega)
    have Q0 : Hid (Blk (wc.alloc (.cells (madeCells #[.int .u32 0] mq) 134)) wc.heap.size 134 (wC (mPart mq 0 (U0 / V) mq))) := by
      have e : mPart mq 0 (U0 / V) mq = List.replicate mq 0 := by
        rw [mPart_tot, ← aPart_zero mq 0]
        unfold wDig aPart
        exact List.map_congr_left fun j _ => by rw [Nat.zero_div, if_neg (by omega)]
      unfold Hid
      rw [e, ← made_wC]
      exact Blk.new _ _ _
    have UA := Lib.hid (UU.out.alloc (.cells (madeCells #[.int .u32 0] mq) 134))
    have VA := Lib.hid (VV.out.alloc (.cells (madeCells #[.int .u32 0] mq) 134))
    have BA := Lib.hid (BB.out.alloc BB.out.size (.cells (madeCells #[.int .u32 0] mq) 134))
    have HU0 := Lib.hid hU0
    have HBIG := Lib.hid hbig
    have hgw : w'.heap.size ≤ wc.heap.size := BB.out.size
    clear hU0 hbig
    go_wp2_with fail
    clear hmk
    generalize hW3 : wc.alloc (.cells (madeCells #[.int .u32 0] mq) 134) = w3 at Q0 UA VA BA ⊢
    clear hW3
    obtain ⟨gq, hgq⟩ : ∃ g, g = wc.heap.size := ⟨_, rfl⟩
    rw [← hgq] at Q0 hwc hgw ⊢
    clear hgq UU VV BB
    have UA2 : Hid (Blk w3 gu 134 (wC (wDig (m + 1) (U0 % (V * 4294967296 ^ mq))))) := by unfold Hid; rw [Nat.mod_eq_of_lt HBIG.out]; exact UA.out
    clear UA
    go_loopw [10] (fun i wr => ∃ k : Nat, i = .int .i64 ((k : Int) - 1) ∧ k ≤ mq ∧ Hid (Blk wr gu 134 (wC (wDig (m + 1) (U0 % (V * 4294967296 ^ k))))) ∧ Hid (Blk wr gv 134 (wC (wDig (n + 1) V))) ∧ Hid (Blk wr gq 134 (wC (mPart mq 0 (U0 / V) k))) ∧ Hid (Below w'.heap.size w' wr)) (fun i _ => (intOf i + 1).toNat)
    case atStart => exact ⟨mq, rfl, Nat.le_refl _, UA2, VA, Q0, BA⟩
    case round =>
      clear UA2 VA Q0 BA
      obtain ⟨k, rfl, hk, UU, VV, QQ, BB⟩ := hrel
      cases k with
      | zero =>
        obtain ⟨R, hR⟩ : ∃ R, R = U0 % (V * 4294967296 ^ 0) := ⟨_, rfl⟩
        have hR2 : R = X % Y * 2 ^ s := by rw [hR, Nat.pow_zero, Nat.mul_one, HU0.out, HVV.out, Nat.mul_mod_mul_right]
        have hRl : R < 4294967296 ^ n := by rw [hR, Nat.pow_zero, Nat.mul_one]; exact Nat.lt_trans (Nat.mod_lt _ hV0) HV.out
        have hR3 : R / 2 ^ s = X % Y := by rw [hR2]; exact Nat.mul_div_cancel _ (Nat.pow_pos (by decide))
        have QF : Hid (Blk wr gq 134 (wC (wDig mq (X / Y)))) := by
          have := QQ.out
          rw [mPart_none, HU0.out, HVV.out, Nat.mul_div_mul_right _ _ (Nat.pow_pos (by decide))] at this
          exact this
        have U1 : Hid (Blk wr gu 134 (wC (mPart (m + 1) (R / 2 ^ s) R 0))) := by
          have := UU.out
          rw [← hR] at this
          unfold Hid
          rw [mPart_none]
          exact this
        have HR3 := Lib.hid hR3
        have HRL := Lib.hid hRl
        have e9 : (n : Int) ≤ (m : Int) + 1 := by omega
        clear hR hR2 hR3 hRl UU QQ
        go_wp2_with fail
        obtain ⟨wo, hwo⟩ : ∃ wo : World, wo = wr := ⟨_, rfl⟩
        subst hwo
        go_loopw [146] (fun i wr => ∃ k : Nat, i = .int .i64 k ∧ k ≤ n ∧ Hid (Blk wr gu 134 (wC (mPart (m + 1) (R / 2 ^ s) R k))) ∧ Hid (Blk wr gq 134 (wC (wDig mq (X / Y)))) ∧ Hid (Below w'.heap.size w' wr)) (fun i _ => n - (intOf i).toNat)
        case atStart => exact ⟨0, rfl, by omega, U1, QF, BB⟩
        case round =>
          clear U1 QF BB VV
          obtain ⟨i, rfl, hi, UU, QQ, BB⟩ := hrel
          by_cases hlt : i < n
          · obtain ⟨x, hx⟩ : ∃ x, x = R / 4294967296 ^ i % 4294967296 := ⟨_, rfl⟩
            obtain ⟨y, hy⟩ : ∃ y, y = R / 4294967296 ^ (i + 1) % 4294967296 := ⟨_, rfl⟩
            obtain ⟨x0, T, v0, z, h1, h2, h2', h3, h4, l1, l2, l3, l4, h5, h6⟩ := shr_nums s1 hx hy
            have hxl : x < 4294967296 := by rw [hx]; exact dig_lt _ _
            have hyl : y < 4294967296 := by rw [hy]; exact dig_lt _ _
            have cU : wr.cell? ⟨gu, i, none⟩ = some (.int .u32 x) := by rw [UU.out.cell, hx]; exact wC_at (by rw [mPart_at (by omega), if_neg (by omega)])
            have fU := UU.out.frozen i
            by_cases hi1 : i + 1 < n
            · have cU1 : wr.cell? ⟨gu, i + 1, none⟩ = some (.int .u32 y) := by rw [UU.out.cell, hy]; exact wC_at (by rw [mPart_at (by omega), if_neg (by omega)])
              have U2 : Hid (Blk ((wr.setCell ⟨gu, i, none⟩ (.int .u32 (x0 : Int))).drew.setCell ⟨gu, i, none⟩ (.int .u32 (z : Int))) gu 134 (wC (mPart (m + 1) (R / 2 ^ s) R (i + 1)))) := by
                unfold Hid
                rw [mPart_step (by omega) h5]
                have := ((UU.out.set_ i (.int .u32 (x0 : Int))).drew).set_ i (.int .u32 (z : Int))
                rw [wC_set, wC_set, List.set_set] at this
                exact this
              have Q2 := Lib.hid (((QQ.out.far (p := ⟨gu, i, none⟩) (show gq ≠ gu by omega) (.int .u32 (x0 : Int))).drew).far (p := ⟨gu, i, none⟩) (show gq ≠ gu by omega) (.int .u32 (z : Int)))
              have B2 := Lib.hid (((BB.out.setCell (p := ⟨gu, i, none⟩) hgu (.int .u32 (x0 : Int))).drew).setCell (p := ⟨gu, i, none⟩) hgu (.int .u32 (z : Int)))
              clear hx hy h5 h6
              go_wp2_with fail
              go_region
              go_wp2_with fail
              go_roundw
              case rel => exact ⟨i + 1, by go_num, by omega, U2, Q2, B2⟩
              case measure => simp [intOf]; omega
            · have hy0 : y = 0 := by rw [hy]; exact dig_high HRL.out (by omega)
              have U2 : Hid (Blk (wr.setCell ⟨gu, i, none⟩ (.int .u32 (x0 : Int))) gu 134 (wC (mPart (m + 1) (R / 2 ^ s) R (i + 1)))) := by
                unfold Hid
                rw [mPart_step (by omega) h5, h6 hy0, ← wC_set]
                exact UU.out.set_ i _
              have Q2 := Lib.hid (QQ.out.far (p := ⟨gu, i, none⟩) (show gq ≠ gu by omega) (.int .u32 (x0 : Int)))
              have B2 := Lib.hid (BB.out.setCell (p := ⟨gu, i, none⟩) hgu (.int .u32 (x0 : Int)))
              clear hx hy h5 h6 hy0 h2 h2' h3 h4
              go_wp2_with fail
              go_roundw
              case rel => exact ⟨i + 1, by go_num, by omega, U2, Q2, B2⟩
              case measure => simp [intOf]; omega
          · have hin : i = n := by omega
            subst hin
            have UF : Hid (Blk wr gu 134 (wC (wDig (m + 1) (X % Y)))) := by
              have := UU.out
              rw [mPart_full (fun q hq => ?_), HR3.out] at this
              · exact this
              · have hle : R / 2 ^ s < 4294967296 ^ i := Nat.lt_of_le_of_lt (Nat.div_le_self _ _) HRL.out
                rw [dig_high hle hq, dig_high HRL.out hq]
            go_wp2_with fail
            go_ret2
            exact ⟨gq, gu, by rw [show m + 1 - i = mq by omega]; rfl, by rw [show m + 1 - i = mq by omega]; exact QQ.out, UF.out, BB.out⟩
      | succ j =>
        obtain ⟨U, hU⟩ : ∃ U, U = U0 % (V * 4294967296 ^ (j + 1)) := ⟨_, rfl⟩
        obtain ⟨W, hW⟩ : ∃ W, W = U / 4294967296 ^ j := ⟨_, rfl⟩
        obtain ⟨q, hq⟩ : ∃ q, q = W / V := ⟨_, rfl⟩
        obtain ⟨r1, r2, r3, r4⟩ := round_nums hV0 hU hW hq
        obtain ⟨v1, hv1⟩ : ∃ v1, v1 = V / 4294967296 ^ (n - 1) := ⟨_, rfl⟩
        obtain ⟨v2, hv2⟩ : ∃ v2, v2 = V / 4294967296 ^ (n - 2) % 4294967296 := ⟨_, rfl⟩
        obtain ⟨a0, ha0⟩ : ∃ a, a = W / 4294967296 ^ n % 4294967296 := ⟨_, rfl⟩
        obtain ⟨a1, ha1⟩ : ∃ a, a = W / 4294967296 ^ (n - 1) % 4294967296 := ⟨_, rfl⟩
        obtain ⟨a2, ha2⟩ : ∃ a, a = W / 4294967296 ^ (n - 2) % 4294967296 := ⟨_, rfl⟩
        obtain ⟨tl, _, _⟩ := top_lt HV.out hn hv1
        have v2l : v2 < 4294967296 := by rw [hv2]; exact dig_lt _ _
        have a0l : a0 < 4294967296 := by rw [ha0]; exact dig_lt _ _
        have a1l : a1 < 4294967296 := by rw [ha1]; exact dig_lt _ _
        have a2l : a2 < 4294967296 := by rw [ha2]; exact dig_lt _ _
        have hWn : W < 4294967296 ^ (n + 1) := by rw [Nat.pow_succ]; exact Nat.lt_of_lt_of_le r1 (Nat.mul_le_mul_right _ (Nat.le_of_lt HV.out))
        obtain ⟨T, hT⟩ : ∃ T, T = W / 4294967296 ^ (n - 1) := ⟨_, rfl⟩
        have hTa : T = a0 * 4294967296 + a1 := by
          have e1 : W / 4294967296 ^ n < 4294967296 := by rw [Nat.div_lt_iff_lt_mul (pw_pos n), Nat.mul_comm, ← Nat.pow_succ]; exact hWn
          have e2 := Nat.div_add_mod (W / 4294967296 ^ (n - 1)) 4294967296
          rw [Nat.div_div_eq_div_mul, ← Nat.pow_succ, show (n - 1).succ = n by omega] at e2
          rw [hT, ha0, ha1, Nat.mod_eq_of_lt e1]
          omega
        have hor : bits .or .u64 ((a0 : Int) * 4294967296) (a1 : Int) = (T : Int) := by
          have := shl_or a0 a1 a0l a1l
          rw [← hTa, Int.natCast_mul] at this
          exact this
        have hTl : T ≤ 18446744073709551615 := by omega
        rw [hv1.symm] at hv
        obtain ⟨d, hd⟩ : ∃ d, d = T / v1 := ⟨_, rfl⟩
        obtain ⟨rs, hrs⟩ : ∃ r, r = T % v1 := ⟨_, rfl⟩
        have E0 := Lib.hid (Est.start hn HV.out hv1 hv r1 hT hd hrs)
        have hdi : (T : Int) / (v1 : Int) = (d : Int) := by rw [hd, Int.natCast_ediv]
        have hri : (T : Int) % (v1 : Int) = (rs : Int) := by rw [hrs, Int.natCast_emod]
        have hdl : d ≤ 4294967297 := E0.out.d1
        have hrl : rs < 4294967296 := E0.out.r1
        have hvz : ((v1 : Int) == 0) = false := by rw [beq_eq_false_iff_ne]; omega
        obtain ⟨p, hp⟩ : ∃ p, p = j + n := ⟨_, rfl⟩
        obtain ⟨p1, hp1⟩ : ∃ p1, p1 = p - 1 := ⟨_, rfl⟩
        obtain ⟨p2, hp2⟩ : ∃ p2, p2 = p - 2 := ⟨_, rfl⟩
        obtain ⟨n1, hn1⟩ : ∃ n1, n1 = n - 1 := ⟨_, rfl⟩
        obtain ⟨n2, hn2⟩ : ∃ n2, n2 = n - 2 := ⟨_, rfl⟩
        have e0 : (j : Int) + n = (p : Int) := by omega
        have e1 : (p : Int) - 1 = (p1 : Int) := by omega
        have e2 : (p : Int) - 2 = (p2 : Int) := by omega
        have e3 : (n : Int) - 1 = (n1 : Int) := by omega
        have e4 : (n : Int) - 2 = (n2 : Int) := by omega
        have dig : ∀ i, j + i < m + 1 → wr.cell? ⟨gu, j + i, none⟩ = some (.int .u32 (W / 4294967296 ^ i % 4294967296 : Nat)) := fun i hi => by
          rw [UU.out.cell, ← hU]
          have := wDig_at (m := m + 1) (n := U) (j := j + i) hi
          rw [Nat.pow_add, ← Nat.div_div_eq_div_mul, ← hW] at this
          exact wC_at this
        have c0 : wr.cell? ⟨gu, p, none⟩ = some (.int .u32 a0) := by rw [hp, ha0]; exact dig n (by omega)
        have c1 : wr.cell? ⟨gu, p1, none⟩ = some (.int .u32 a1) := by rw [hp1, hp, ha1, show j + n - 1 = j + (n - 1) by omega]; exact dig (n - 1) (by omega)
        have c2 : wr.cell? ⟨gu, p2, none⟩ = some (.int .u32 a2) := by rw [hp2, hp, ha2, show j + n - 2 = j + (n - 2) by omega]; exact dig (n - 2) (by omega)
        have b1 : wr.cell? ⟨gv, n1, none⟩ = some (.int .u32 v1) := by
          rw [VV.out.cell, hn1]
          have := wDig_at (m := n + 1) (n := V) (j := n - 1) (by omega)
          rw [← hv1, Nat.mod_eq_of_lt tl] at this
          exact wC_at this
        have b2 : wr.cell? ⟨gv, n2, none⟩ = some (.int .u32 v2) := by rw [VV.out.cell, hn2, hv2]; exact wC_at (wDig_at (by omega))
        have hpm : p < m + 1 := by omega
        have hp1m : p1 < m + 1 := by omega
        have hp2m : p2 < m + 1 := by omega
        have hn1m : n1 < n := by omega
        have hn2m : n2 < n := by omega
        have hj1 : ((j + 1 : Nat) : Int) - 1 = (j : Int) := by omega
        rw [hj1]
        have HU := Lib.hid hU; have HW := Lib.hid hW; have Hq := Lib.hid hq; have R1 := Lib.hid r1; have R3 := Lib.hid r3; have R4 := Lib.hid r4
        have Hv1 := Lib.hid hv1; have Hv2 := Lib.hid hv2; have Ha2 := Lib.hid ha2; have HT := Lib.hid hT; have HWn := Lib.hid hWn; have Hp := Lib.hid hp
        clear hU hW hq r1 r3 r4 hv1 hv2 ha0 ha1 ha2 hT hTa hd hrs hp hp1 hp2 hn1 hn2 dig hj1 hWn
        go_wp2_with fail
        go_quiet (fail)
        go_wp2_with fail
        go_quiet (fail)
        go_upto_block 2 with fail
        obtain ⟨wo, hwo⟩ : ∃ wo : World, wo = wr := ⟨_, rfl⟩
        subst hwo
        have e5 : p + 1 - j = n + 1 := by have := Hp.out; omega
        have e6 : (p : Int) + 1 ≤ (m : Int) + 1 := by omega
        have e7 : (j : Int) ≤ (p : Int) + 1 := by omega
        have e8 : ¬ m + 1 = j := by omega
        go_cut [12] (fun s12 wx => ∃ d N : Nat, s12 = .int .u64 d ∧ d < 4294967296 ∧ Hid (W < (d + 1) * V ∧ d * V < W + V) ∧ wx = wo.drewN N)
        case first =>
          go_wp2_with fail
          go_loopw [12, 13] (fun x y wr => ∃ d r N : Nat, x = .int .u64 d ∧ y = .int .u64 r ∧ Hid (Est V W n v1 d r) ∧ wr = wo.drewN N) (fun x _ _ => (intOf x).toNat)
          case atStart => exact ⟨d, rs, _, rfl, by rw [hri], E0, by rw [World.drewN_drewN]⟩
          case round =>
            clear E0 hdi hri hdl hrl hor hTl
            obtain ⟨d, r, N, rfl, rfl, E, rfl⟩ := hrel
            have hdl : d ≤ 4294967297 := E.out.d1
            have hrl : r < 4294967296 := E.out.r1
            by_cases hbig : 4294967296 ≤ d
            · obtain ⟨g1, g2⟩ := E.out.down hn Hv1.out R1.out (.inl hbig)
              obtain ⟨e, rfl⟩ : ∃ e, d = e + 1 := ⟨d - 1, by omega⟩
              have f1 : ((e : Int) + 1) / 4294967296 = 1 := by omega
              have G2 := Lib.hid g2
              clear g2
              by_cases hrs : r + v1 < 4294967296
              · have f2 : ((r : Int) + v1) / 4294967296 = 0 := by omega
                have E2 := Lib.hid (E.out.next G2.out hrs)
                go_wp2_with fail
                go_quiet (fail)
                go_wp2_with fail
                go_roundw
                case rel => exact ⟨e, r + v1, _, rfl, by rw [Int.natCast_add], E2, rfl⟩
                case measure => simp [intOf]
              · have f2 : ((r : Int) + v1) / 4294967296 = 1 := by omega
                have E2 := Lib.hid (E.out.leave hn HV.out Hv1.out hv R1.out (by omega))
                go_wp2_with fail
                go_quiet (fail)
                go_wp2_with fail
                go_meet
                case rel => exact ⟨e, _, rfl, E2.out.1, ⟨G2.out, E2.out.2⟩, rfl⟩
            · have f1 : (d : Int) / 4294967296 = 0 := by omega
              obtain ⟨D2, hD2⟩ : ∃ D2, D2 = d * v2 := ⟨_, rfl⟩
              have hDl : D2 ≤ 4294967295 * 4294967295 := by rw [hD2]; exact Nat.mul_le_mul (by omega) (by omega)
              obtain ⟨R2, hR2⟩ : ∃ R2, R2 = r * 4294967296 + a2 := ⟨_, rfl⟩
              have hm2 : IntKind.u64.wrap ((d : Int) * v2) = (D2 : Int) := by rw [hD2, ← Int.natCast_mul]; exact IntWalk.u64_in _ (by rw [← hD2]; omega)
              have hm3 : (d : Int) * v2 = (D2 : Int) := by rw [hD2, Int.natCast_mul]
              have hor2 : bits .or .u64 ((r : Int) * 4294967296) (a2 : Int) = (R2 : Int) := by
                have := shl_or r a2 hrl a2l
                rw [← hR2, Int.natCast_mul] at this
                exact this
              have hR2l : R2 ≤ 18446744073709551615 := by omega
              by_cases ht : R2 < D2
              · obtain ⟨g1, g2⟩ := E.out.down hn Hv1.out R1.out (.inr (by rw [← Hv2.out, ← hD2, ← Ha2.out, ← hR2]; exact ht))
                have HD2 := Lib.hid hD2
                have HR2 := Lib.hid hR2
                clear hD2 hR2
                obtain ⟨e, rfl⟩ : ∃ e, d = e + 1 := ⟨d - 1, by omega⟩
                have he1 : ((e + 1 : Nat) : Int) = (e : Int) + 1 := by omega
                rw [he1] at f1 hm2 hm3
                clear he1
                have G2 := Lib.hid g2
                clear g2
                by_cases hrs : r + v1 < 4294967296
                · have f2 : ((r : Int) + v1) / 4294967296 = 0 := by omega
                  have E2 := Lib.hid (E.out.next G2.out hrs)
                  go_wp2_with fail
                  go_quiet (fail)
                  go_wp2_with fail
                  go_roundw
                  case rel => exact ⟨e, r + v1, _, rfl, by rw [Int.natCast_add], E2, rfl⟩
                  case measure => simp [intOf]
                · have f2 : ((r : Int) + v1) / 4294967296 = 1 := by omega
                  have E2 := Lib.hid (E.out.leave hn HV.out Hv1.out hv R1.out (by omega))
                  go_wp2_with fail
                  go_quiet (fail)
                  go_wp2_with fail
                  go_meet
                  case rel => exact ⟨e, _, rfl, E2.out.1, ⟨G2.out, E2.out.2⟩, rfl⟩
              · have E2 := Lib.hid (E.out.good hn Hv1.out hv (by omega) (by rw [← Hv2.out, ← hD2, ← Ha2.out, ← hR2]; omega))
                have HD2 := Lib.hid hD2
                clear hD2 hR2
                go_wp2_with fail
                go_quiet (fail)
                go_wp2_with fail
                go_meet
                case rel => exact ⟨d, _, rfl, by omega, ⟨E.out.low, E2.out⟩, by rw [World.drewN_drewN]⟩
        case rest =>
          obtain ⟨d, N, rfl, hd2, hWd, rfl⟩ := hcut
          clear hor hTl E0 hdi hri hdl hrl hvz
          obtain ⟨D, hD⟩ : ∃ D, D = d * V := ⟨_, rfl⟩
          obtain ⟨Z, hZ⟩ : ∃ Z, Z = W + 4294967296 ^ (n + 1) - D := ⟨_, rfl⟩
          have HD := Lib.hid hD
          have HZ := Lib.hid hZ
          clear hD hZ
          have ULT : Hid (U < 4294967296 ^ (j + n + 1)) := by
            unfold Hid
            have h1 := HWn.out
            rw [HW.out, Nat.div_lt_iff_lt_mul (pw_pos j), ← Nat.pow_add, show n + 1 + j = j + n + 1 by omega] at h1
            exact h1
          have UU2 : Hid (Blk (wo.drewN N) gu 134 (wC (wDig (m + 1) U))) := by unfold Hid; rw [HU.out]; exact UU.out
          have VV2 : Hid (Blk (wo.drewN N) gv 134 (wC (wDig (n + 1) V))) := VV.out
          have QQ2 : Hid (Blk (wo.drewN N) gq 134 (wC (mPart mq 0 (U0 / V) (j + 1)))) := QQ.out
          have BB2 : Hid (Below w'.heap.size w' (wo.drewN N)) := below_drewN BB.out N
          have hVM : V ≤ 4294967296 ^ (n + 1) := Nat.le_trans (Nat.le_of_lt HV.out) (Nat.pow_le_pow_right (by decide) (by omega))
          have HB := Lib.hid (borrow_nums hV0 Hq.out hWd.out.1 hWd.out.2 HWn.out hVM HD.out HZ.out)
          clear UU VV QQ BB c0 c1 c2 b1 b2 hWd hVM
          go_wp2_with fail
          refine (takeAway_any gu _ j n (m + 1) U gv _ (n + 1) V d D W Z _ (by omega) (by omega) UU2.out ULT.out VV2.out (by omega) HV.out hd2 (by omega) HD.out HW.out HZ.out (by omega)).mono ?_
          rintro e w5 ⟨rfl, hU5, hg5⟩
          have U5 := Lib.hid hU5
          have V5 := Lib.hid (VV2.out.grown hg5 (by simp; omega))
          have Q5 := Lib.hid (QQ2.out.grown hg5 (by simp; omega))
          have B5 := Lib.hid (BB2.out.grown hg5 BB2.out.size (fun k hk => by cases hk; exact hgu))
          clear hU5 hg5 UU2 VV2 QQ2 BB2
          rcases HB.out with ⟨z1, z2, z3, z4⟩ | ⟨z1, z2, z3⟩
          · subst z2
            obtain ⟨U', hU'⟩ : ∃ U', U' = U % 4294967296 ^ j + 4294967296 ^ j * (Z % 4294967296 ^ (n + 1)) := ⟨_, rfl⟩
            rw [← hU'] at U5
            have hU1 : U' / 4294967296 ^ j = Z % 4294967296 ^ (n + 1) := by rw [hU', Nat.add_mul_div_left _ _ (pw_pos j), Nat.div_eq_of_lt (Nat.mod_lt _ (pw_pos j)), Nat.zero_add]
            have hU2 : U' % 4294967296 ^ j = U % 4294967296 ^ j := by rw [hU', Nat.add_mul_mod_self_left, Nat.mod_mod]
            have ULT' : Hid (U' < 4294967296 ^ (j + n + 1)) := by
              unfold Hid
              rw [show j + n + 1 = n + 1 + j by omega, Nat.pow_add, ← Nat.div_lt_iff_lt_mul (pw_pos j), hU1]
              exact Nat.mod_lt _ (pw_pos _)
            have HF : Hid (U' % 4294967296 ^ j + 4294967296 ^ j * ((Z % 4294967296 ^ (n + 1) + V) % 4294967296 ^ (n + 1)) = U0 % (V * 4294967296 ^ j)) := by
              unfold Hid
              rw [R4.out, hU2, z3, z4]
            have HU1 := Lib.hid hU1.symm
            clear hU' hU1 hU2 z3 z4 HB
            go_wp2_with fail
            refine (putBack_any gu _ j n (m + 1) U' gv _ (n + 1) V (Z % 4294967296 ^ (n + 1)) _ (by omega) (by omega) U5.out ULT'.out V5.out (by omega) HV.out (by omega) HU1.out (by omega)).mono ?_
            rintro e wf ⟨rfl, hU6, hg6⟩
            have UF : Hid (Blk wf gu 134 (wC (wDig (m + 1) (U0 % (V * 4294967296 ^ j))))) := by unfold Hid; rw [← HF.out]; exact hU6
            have VF := Lib.hid (V5.out.grown hg6 (by simp; omega))
            have QF := Lib.hid (Q5.out.grown hg6 (by simp; omega))
            have BF := Lib.hid (B5.out.grown hg6 B5.out.size (fun k hk => by cases hk; exact hgu))
            clear hU6 hg6 U5 V5 Q5 B5 z1
            obtain ⟨u, cQ⟩ : ∃ u, wf.cell? ⟨gq, j, none⟩ = some u := ⟨_, by rw [QF.out.cell]; exact Array.getElem?_eq_getElem (by simp [wC, mPart_len]; omega)⟩
            have fQ := QF.out.frozen j
            have QN : Hid (Blk (wf.setCell ⟨gq, j, none⟩ (.int .u32 (q : Int))) gq 134 (wC (mPart mq 0 (U0 / V) j))) := by
              unfold Hid
              rw [mPart_back (by omega) R3.out, ← wC_set]
              exact QF.out.set_ j _
            have UN := Lib.hid (UF.out.far (p := ⟨gq, j, none⟩) (show gu ≠ gq by omega) (.int .u32 (q : Int)))
            have VN := Lib.hid (VF.out.far (p := ⟨gq, j, none⟩) (show gv ≠ gq by omega) (.int .u32 (q : Int)))
            have BN := Lib.hid (BF.out.setCell (p := ⟨gq, j, none⟩) hgw (.int .u32 (q : Int)))
            go_wp2_with fail
            go_roundw
            case rel => exact ⟨j, rfl, by omega, UN, VN, QN, BN⟩
            case measure => simp [intOf]
          · subst z2
            have UF : Hid (Blk w5 gu 134 (wC (wDig (m + 1) (U0 % (V * 4294967296 ^ j))))) := by
              unfold Hid
              rw [R4.out, ← z3]
              exact U5.out
            clear z3 HB U5
            obtain ⟨wf, hwf⟩ : ∃ wf, w5 = wf := ⟨_, rfl⟩
            subst hwf
            have VF := V5; have QF := Q5; have BF := B5
            clear V5 Q5 B5
            obtain ⟨u, cQ⟩ : ∃ u, w5.cell? ⟨gq, j, none⟩ = some u := ⟨_, by rw [QF.out.cell]; exact Array.getElem?_eq_getElem (by simp [wC, mPart_len]; omega)⟩
            have fQ := QF.out.frozen j
            have QN : Hid (Blk (w5.setCell ⟨gq, j, none⟩ (.int .u32 (d : Int))) gq 134 (wC (mPart mq 0 (U0 / V) j))) := by
              unfold Hid
              rw [mPart_back (by omega) R3.out, ← wC_set]
              exact QF.out.set_ j _
            have UN := Lib.hid (UF.out.far (p := ⟨gq, j, none⟩) (show gu ≠ gq by omega) (.int .u32 (d : Int)))
            have VN := Lib.hid (VF.out.far (p := ⟨gq, j, none⟩) (show gv ≠ gq by omega) (.int .u32 (d : Int)))
            have BN := Lib.hid (BF.out.setCell (p := ⟨gq, j, none⟩) hgw (.int .u32 (d : Int)))
            go_wp2_with fail
            go_roundw
            case rel => exact ⟨j, rfl, by omega, UN, VN, QN, BN⟩
            case measure => simp [intOf]
end Go.Proofs.YtmfejdikfpckdaaGreatDoor

namespace Go.Proofs.YtmfejdikfpckdaaGreatDoor
open Go.RowKit
set_option linter.unusedVariables false
set_option maxRecDepth 100000

theorem nS_high {n : Nat} (h : 0 < n) : 256 ^ ((nS n).size - 1) ≤ n := by
  rcases Nat.lt_or_ge n (256 ^ ((nS n).size - 1)) with h1 | h1
  · have h2 := digs_len h1
    rw [← nS_size] at h2
    have h3 : 0 < (nS n).size := by
      rcases Nat.eq_zero_or_pos (nS n).size with h4 | h4
      · have := nS_empty.1 h4; omega
      · exact h4
    omega
  · exact h1
theorem size_mono {a b : Nat} (h : a ≤ b) : (nS a).size ≤ (nS b).size := digs_len_mono h
set_option maxHeartbeats 2000000 in
theorem DivS_any (a b : Nat) (w : World) (ha : (nS a).size ≤ 100000) (hb : (nS b).size ≤ 100000) (h8 : ¬ (nS a).size ≤ 8 ∨ ¬ (nS b).size ≤ 8) (hb0 : 0 < b) (hlt : a < b) :
    Calls Tryz.prog 71 #[.string (nS a), .string (nS b)] w fun e w' => e = .returned (.tuple #[.string (nS (a / b)), .string (nS (a % b)), .int .i64 0]) ∧ Below w.heap.size w w' := by
  have HR : Hid (cmpN a b = -1) := by unfold Hid cmpN; rw [if_pos hlt]
  have HQ : Hid (nS (a / b) = ⟨#[]⟩) := by unfold Hid; rw [Nat.div_eq_of_lt hlt]; exact nS_0
  have HM : Hid (a % b = a) := Nat.mod_eq_of_lt hlt
  have hne := nS_ne hb0
  have hb8 : ¬ (nS b).size ≤ 8 := by
    have := size_mono (Nat.le_of_lt hlt)
    omega
  have HA := Lib.hid ha
  have HB := Lib.hid hb
  clear ha hb hlt h8
  by_cases ha8 : (nS a).size ≤ 8
  all_goals
    go_enter Tryz.func71, Tryz.ntmps71
    go_wp2_with fail
    refine (trim_nS a _ HA.out).mono ?_
    rintro e w' ⟨rfl, rfl⟩
    go_wp2_with fail
    refine (trim_nS b _ HB.out).mono ?_
    rintro e w' ⟨rfl, rfl⟩
    go_wp2_with fail
    refine (Cmp_any a b _ _ HA.out HB.out HR).mono ?_
    rintro e w' ⟨rfl, rfl⟩
    go_wp2_with fail
    go_ret3
    exact ⟨by rw [HQ.out, HM.out]; rfl, Below.refl _ _⟩
set_option maxHeartbeats 4000000 in
theorem DivL_any (a b : Nat) (w : World) (ha : (nS a).size ≤ 100000) (hb : ¬ (nS b).size ≤ 4) (h8 : ¬ (nS a).size ≤ 8) (hle : b ≤ a) :
    Calls Tryz.prog 71 #[.string (nS a), .string (nS b)] w fun e w' => e = .returned (.tuple #[.string (nS (a / b)), .string (nS (a % b)), .int .i64 0]) ∧ Below w.heap.size w w' := by
  have hb1 := size_mono hle
  have hb0 : 0 < b := by
    rcases Nat.eq_zero_or_pos b with h | h
    · subst h; rw [nS_0] at hb; exact absurd (by decide) hb
    · exact h
  obtain ⟨m, hm⟩ : ∃ m, m = ((nS a).size + 3) / 4 := ⟨_, rfl⟩
  obtain ⟨n, hn⟩ : ∃ n, n = ((nS b).size + 3) / 4 := ⟨_, rfl⟩
  have la : a < 4294967296 ^ m := by rw [hm]; exact nS_low a
  have lb : b < 4294967296 ^ n := by rw [hn]; exact nS_low b
  have lt : 4294967296 ^ (n - 1) ≤ b := by
    have h1 := nS_high hb0
    rw [show (4294967296 : Nat) = 256 ^ 4 from rfl, ← Nat.pow_mul]
    exact Nat.le_trans (Nat.pow_le_pow_right (by decide) (by omega)) h1
  have WA := fun w => words_any a w ha
  have WB := fun w => words_any b w (by omega)
  rw [← hm] at WA
  rw [← hn] at WB
  have m1 : m ≤ 25000 := by omega
  have n2 : 2 ≤ n := by omega
  have nm : n ≤ m := by omega
  obtain ⟨r, hr⟩ : ∃ r, cmpN a b = r := ⟨_, rfl⟩
  have hr0 : 0 ≤ r := by rw [← hr, cmpN]; split; omega; split <;> omega
  have HR := Lib.hid hr
  have HA := Lib.hid ha
  have LA := Lib.hid la
  have LB := Lib.hid lb
  have LT := Lib.hid lt
  have hne := nS_ne hb0
  have HB : Hid ((nS b).size ≤ 100000) := by unfold Hid; omega
  have hn1 : ((n : Int) == 1) = false := by rw [beq_eq_false_iff_ne]; omega
  clear hr hm hn la lb lt ha hb1 hb
  go_enter Tryz.func71, Tryz.ntmps71
  go_wp2_with fail
  refine (trim_nS a _ HA.out).mono ?_
  rintro e w' ⟨rfl, rfl⟩
  go_wp2_with fail
  refine (trim_nS b _ HB.out).mono ?_
  rintro e w' ⟨rfl, rfl⟩
  go_wp2_with fail
  refine (Cmp_any a b r _ HA.out HB.out HR).mono ?_
  rintro e w' ⟨rfl, rfl⟩
  go_wp2_with fail
  refine (WA _).mono ?_
  rintro e w1 ⟨ga, rfl, hga, hX, hb1⟩
  have X1 := Lib.hid hX
  have B1 := Lib.hid hb1
  clear hX hb1
  go_wp2_with fail
  refine (WB _).mono ?_
  rintro e w2 ⟨gb, rfl, hgb, hY, hb2⟩
  have X2 := Lib.hid (X1.out.below hb2 X1.out.lt)
  have Y2 := Lib.hid hY
  have B2 := Lib.hid (B1.out.trans (hb2.mono B1.out.size))
  clear hY hb2 X1 B1 WA WB hgb hga
  go_wp2_with fail
  refine (long_any ga _ m a gb _ n b _ (by omega) n2 nm X2.out LA.out Y2.out LB.out LT.out).mono ?_
  rintro e w3 ⟨gq, gr, rfl, hQ, hR, hb3⟩
  have Q3 := Lib.hid hQ
  have R3 := Lib.hid hR
  have B3 := Lib.hid (B2.out.trans (hb3.mono B2.out.size))
  clear hQ hR hb3 X2 Y2 B2
  have HQ : Hid (a / b < 256 ^ (4 * (m + 1 - n))) := by
    unfold Hid
    rw [pow_big, Nat.div_lt_iff_lt_mul hb0]
    refine Nat.lt_of_lt_of_le LA.out ?_
    have : 4294967296 ^ m = 4294967296 ^ (m + 1 - n) * 4294967296 ^ (n - 1) := by rw [← Nat.pow_add, show m + 1 - n + (n - 1) = m by omega]
    rw [this]
    exact Nat.mul_le_mul_left _ LT.out
  have HM : Hid (a % b < 256 ^ (4 * n)) := by
    unfold Hid
    rw [pow_big]
    exact Nat.lt_trans (Nat.mod_lt _ hb0) LB.out
  go_wp2_with fail
  refine (text_pre gq _ (m + 1 - n) (m + 1 - n) (a / b) _ (by omega) (Nat.le_refl _) HQ.out Q3.out).mono ?_
  rintro e w4 ⟨rfl, hb4⟩
  have R4 := Lib.hid (R3.out.below hb4 R3.out.lt)
  have B4 := Lib.hid (B3.out.trans (hb4.mono B3.out.size))
  clear hb4 R3 B3
  go_wp2_with fail
  refine (text_pre gr _ n (m + 1) (a % b) _ (by omega) (by omega) HM.out R4.out).mono ?_
  rintro e w5 ⟨rfl, hb5⟩
  have B5 := Lib.hid (B4.out.trans (hb5.mono B4.out.size))
  clear hb5
  go_wp2_with fail
  go_ret3
  exact ⟨rfl, B5.out⟩
/-- **nat.Div.** -/
theorem DivG (a b : Nat) (w : World) (ha : (nS a).size ≤ 100000) (hb : (nS b).size ≤ 100000) (hb0 : 0 < b) :
    Calls Tryz.prog 71 #[.string (nS a), .string (nS b)] w fun e w' => e = .returned (.tuple #[.string (nS (a / b)), .string (nS (a % b)), .int .i64 0]) ∧ Below w.heap.size w w' := by
  by_cases h8 : (nS a).size ≤ 8 ∧ (nS b).size ≤ 8
  · exact Div_any a b w (digs_low (k := 8) (by have := h8.1; rw [nS_size] at this; omega)) (digs_low (k := 8) (by have := h8.2; rw [nS_size] at this; omega)) hb0
  · rcases Nat.lt_or_ge a b with hlt | hge
    · exact DivS_any a b w ha hb (by omega) hb0 hlt
    · have h9 : ¬ (nS a).size ≤ 8 := by
        have := size_mono hge
        omega
      by_cases h4 : (nS b).size ≤ 4
      · exact DivW_any a b w ha h9 hb0 (digs_low (k := 4) (by rw [nS_size] at h4; exact h4))
      · exact DivL_any a b w ha h4 h9 hge
end Go.Proofs.YtmfejdikfpckdaaGreatDoor
