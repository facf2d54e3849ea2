/- bits.TrailingZeros64, bits.Sub64 at this program; the walks of nat.limbs, cut, evens. Printed by gen/numl.py. · The walks of nat.right, below, minus. Printed by gen/numm.py. -/
import Derived.Test.YtmfejdikfpckdaaGreatDoorFc14
import Derived.Shelf.Spec.TrailingZeros
import Derived.Shelf.Spec.BitsCarry
namespace Go.Proofs.YtmfejdikfpckdaaGreatDoor
open Go.RowKit
set_option linter.unusedVariables false
set_option maxRecDepth 100000

/-- The table of the library. -/
def Tb (w : World) : Prop := TabAt 1 Lib.deBruijn64tab w
theorem Tb.bel {B : Nat} {w w' : World} (h : Tb w) (hB : w.heap.size ≤ B) (hb : Below B w w') : Tb w' := fun j hj => by
  have h1 := h j hj
  exact (hb.cell (Nat.lt_of_lt_of_le (World.block_lt_of_cell? w _ h1) hB)).trans h1
theorem Tb.below {w w' : World} (h : Tb w) (hb : Below w.heap.size w w') : Tb w' := h.bel (Nat.le_refl _) hb
set_option maxHeartbeats 1000000 in
theorem tz64_core (x k idx : Nat) (w : World) (hx0 : ((x : Int) == 0) = false)
    (key : IntKind.u64.wrap (bits BinOp.and IntKind.u64 (x : Int) (IntKind.u64.wrap (-(x : Int))) * 285870213051353865) / 288230376151711744 = (idx : Int))
    (hi : idx < 64) (hk : k < 64) (hcell : w.cell? ⟨1, idx, none⟩ = some (.int .u8 k)) :
    Calls Tryz.prog 124 #[.int .u64 x] w fun e w' => e = .returned (.int .i64 k) ∧ w = w' := by
  go_enter Tryz.func124, Tryz.ntmps124
  go_wp2_with (simp only [key])
  go_ret
  exact ⟨rfl, rfl⟩
theorem tz64_any (x : Nat) (hx : x < 18446744073709551616) (hx0 : x ≠ 0) (w : World) (hT : Tb w) :
    Calls Tryz.prog 124 #[.int .u64 x] w fun e w' => e = .returned (.int .i64 (Lib.ctz 64 x)) ∧ w = w' := by
  obtain ⟨hlow, hk⟩ := Lib.lowest_bit 64 x hx0 hx
  obtain ⟨hi, htab⟩ := Lib.deBruijn64_at _ hk
  have hcell := hT _ hi
  rw [htab] at hcell
  exact tz64_core x _ _ w (by simp; omega) (tz64_key x _ hx hx0 hlow) hi hk hcell
theorem sub64_run (x y b : Nat) (hb : b ≤ 1) (w : World) :
    (callFunc 126 #[.int .u64 x, .int .u64 y, .int .u64 b]).run Tryz.prog w =
      .ok (.value (.tuple #[.int .u64 (((x + 18446744073709551616 - y - b) % 18446744073709551616 : Nat) : Int), .int .u64 ((if x < y + b then 1 else 0 : Nat) : Int)])) w := by
  rw [run_callFunc_extern Tryz.func126 (by kernel_rfl) (by kernel_rfl) (by kernel_rfl) (e := sub64Entry) (by kernel_rfl), run_sub64 x y b hb]
  rfl

/-! Digits in base 2^64 -/
def qC (l : List Nat) : Array Value := (l.map fun x : Nat => Value.int .u64 (x : Int)).toArray
theorem qC_at {l : List Nat} {j x : Nat} (h : l[j]? = some x) : (qC l)[j]? = some (.int .u64 x) := by simp [qC, h]
theorem qC_set (l : List Nat) (j x : Nat) : (qC l).setIfInBounds j (.int .u64 x) = qC (l.set j x) := by
  apply Array.ext'
  simp [qC, List.map_set]
theorem info_u64 : (Tryz.prog.info? 130).map (fun i => (i.zero, i.size, i.bytes)) = some (some (.int .u64 0), 1, 8) := by kernel_rfl
theorem made_qC (m : Nat) : madeCells #[.int .u64 0] m = qC (List.replicate m 0) := by
  apply Array.ext
  · simp [size_madeCells, qC]
  · intro i h1 h2
    simp [madeCells, Nat.mod_one, qC]
theorem qw_pos (i : Nat) : 0 < 18446744073709551616 ^ i := Nat.pow_pos (by decide)
theorem qig_lt (X i : Nat) : X / 18446744073709551616 ^ i % 18446744073709551616 < 18446744073709551616 := Nat.mod_lt _ (by decide)
/-- From o on, the list's m numbers are the digits of n. -/
structure QAt (L : List Nat) (o m n : Nat) : Prop where
  at_ : ∀ j, j < m → L[o + j]? = some (n / 18446744073709551616 ^ j % 18446744073709551616)
  len : o + m ≤ L.length
  lt : n < 18446744073709551616 ^ m
/-- m digits are as many as n wants. -/
def QL (n m : Nat) : Prop := n < 18446744073709551616 ^ m ∧ (m = 0 ∨ 18446744073709551616 ^ (m - 1) ≤ n)
theorem QL.pos {n m : Nat} (h : QL n m) (hm : 0 < m) : 0 < n := by
  rcases h.2 with h1 | h1
  · omega
  · exact Nat.lt_of_lt_of_le (qw_pos _) h1
theorem QL.zero {n : Nat} (h : QL n 0) : n = 0 := by have := h.1; simp at this; omega
theorem QL.lt {a b m k : Nat} (ha : QL a m) (hb : QL b k) (h : m < k) : a < b := by
  rcases hb.2 with h1 | h1
  · omega
  · exact Nat.lt_of_lt_of_le ha.1 (Nat.le_trans (Nat.pow_le_pow_right (by decide) (by omega)) h1)
/-! nat.limbs -/
theorem mod_pow_div (n i k : Nat) (h : k ≤ i) : n % 256 ^ i / 256 ^ k = n / 256 ^ k % 256 ^ (i - k) := by
  have hp : 256 ^ i = 256 ^ k * 256 ^ (i - k) := by rw [← Nat.pow_add, show k + (i - k) = i by omega]
  rw [hp, Nat.mod_mul_right_div_self]
/-- The limbs of n % 256^i. -/
def qPart (m n i : Nat) : List Nat := (List.range m).map fun j => n % 256 ^ i / 256 ^ (8 * j) % 18446744073709551616
theorem qPart_len (m n i : Nat) : (qPart m n i).length = m := by simp [qPart]
theorem qPart_at {m n i j : Nat} (h : j < m) : (qPart m n i)[j]? = some (n % 256 ^ i / 256 ^ (8 * j) % 18446744073709551616) := by
  unfold qPart; rw [List.getElem?_map, List.getElem?_range h]; rfl
theorem qPart_zero (m n : Nat) : qPart m n 0 = List.replicate m 0 := by
  apply List.ext_getElem?
  intro j
  by_cases h : j < m
  · rw [qPart_at h, List.getElem?_replicate, if_pos h, Nat.pow_zero, Nat.mod_one, Nat.zero_div]
  · rw [List.getElem?_eq_none (by simp [qPart]; omega), List.getElem?_eq_none (by simp; omega)]
theorem qPart_step {m n i : Nat} (hi : i / 8 < m) :
    ∃ x b t : Nat, (qPart m n i)[i / 8]? = some x ∧ b = n / 256 ^ i % 256 ∧ t = i % 8 ∧ x < 256 ^ t ∧ qPart m n (i + 1) = (qPart m n i).set (i / 8) (x + b * 256 ^ t) := by
  obtain ⟨q, hq⟩ : ∃ q, q = n / 256 ^ (8 * (i / 8)) := ⟨_, rfl⟩
  have hi8 : i = 8 * (i / 8) + i % 8 := by omega
  have e2 : n / 256 ^ i % 256 = q / 256 ^ (i % 8) % 256 := by
    conv => lhs; rw [hi8, Nat.pow_add, ← Nat.div_div_eq_div_mul, ← hq]
  have ht : i % 8 < 8 := Nat.mod_lt _ (by decide)
  have hw : n % 256 ^ i / 256 ^ (8 * (i / 8)) = q % 256 ^ (i % 8) := by
    rw [mod_pow_div n i _ (by omega), ← hq, show i - 8 * (i / 8) = i % 8 by omega]
  have hw2 : n % 256 ^ (i + 1) / 256 ^ (8 * (i / 8)) = q % 256 ^ (i % 8 + 1) := by
    rw [mod_pow_div n (i + 1) _ (by omega), ← hq, show i + 1 - 8 * (i / 8) = i % 8 + 1 by omega]
  have hlt : q % 256 ^ (i % 8) < 256 ^ (i % 8) := Nat.mod_lt _ (Nat.pow_pos (by decide))
  have hx : n % 256 ^ i / 256 ^ (8 * (i / 8)) % 18446744073709551616 = q % 256 ^ (i % 8) := by
    rw [hw]; exact Nat.mod_eq_of_lt (Nat.lt_of_lt_of_le hlt (show 256 ^ (i % 8) ≤ 256 ^ 8 from Nat.pow_le_pow_right (by decide) (by omega)))
  have hlt2 : q % 256 ^ (i % 8 + 1) < 256 ^ (i % 8 + 1) := Nat.mod_lt _ (Nat.pow_pos (by decide))
  have hx2 : n % 256 ^ (i + 1) / 256 ^ (8 * (i / 8)) % 18446744073709551616 = q % 256 ^ (i % 8) + q / 256 ^ (i % 8) % 256 * 256 ^ (i % 8) := by
    rw [hw2, Nat.mod_eq_of_lt (Nat.lt_of_lt_of_le hlt2 (show 256 ^ (i % 8 + 1) ≤ 256 ^ 8 from Nat.pow_le_pow_right (by decide) (by omega))), Nat.pow_succ, Nat.mod_mul, Nat.mul_comm (256 ^ (i % 8))]
  refine ⟨q % 256 ^ (i % 8), _, _, ?_, rfl, rfl, hlt, ?_⟩
  · rw [qPart_at hi, hx]
  · rw [e2]
    apply List.ext_getElem?
    intro j
    rw [List.getElem?_set]
    by_cases hj : i / 8 = j
    · subst hj
      rw [if_pos rfl, qPart_at hi, hx2, if_pos (by simp [qPart, hi])]
    · rw [if_neg hj]
      by_cases hjm : j < m
      · rw [qPart_at hjm, qPart_at hjm]
        congr 1
        rcases Nat.lt_or_ge j (i / 8) with h | h
        · have f : ∀ r, n % 256 ^ (8 * j + (8 + r)) / 256 ^ (8 * j) % 18446744073709551616 = n / 256 ^ (8 * j) % 18446744073709551616 := fun r => by
            rw [Nat.pow_add, Nat.mod_mul_right_div_self, Nat.pow_add]
            exact Nat.mod_mul_right_mod _ _ _
          have f1 := f (i - 8 * j - 8)
          have f2 := f (i + 1 - 8 * j - 8)
          rw [show 8 * j + (8 + (i - 8 * j - 8)) = i by omega] at f1
          rw [show 8 * j + (8 + (i + 1 - 8 * j - 8)) = i + 1 by omega] at f2
          rw [f1, f2]
        · have z : ∀ k, k ≤ 8 * j → n % 256 ^ k / 256 ^ (8 * j) = 0 := fun k hk =>
            Nat.div_eq_of_lt (Nat.lt_of_lt_of_le (Nat.mod_lt _ (Nat.pow_pos (by decide))) (Nat.pow_le_pow_right (by decide) hk))
          rw [z i (by omega), z (i + 1) (by omega)]
      · rw [List.getElem?_eq_none (by simp [qPart]; omega), List.getElem?_eq_none (by simp [qPart]; omega)]
theorem or_limb (x b t : Nat) (hx : x < 256 ^ t) (hb : b < 256) (ht : t < 8) :
    ∃ V z : Nat, IntKind.u64.wrap ((b : Int) * 2 ^ (t * 8)) = (V : Int) ∧ (b : Int) * 2 ^ (t * 8) = (V : Int) ∧ bits .or .u64 (x : Int) (V : Int) = (z : Int) ∧ z = x + b * 256 ^ t ∧ V ≤ 18446744073709551615 ∧ x ≤ 18446744073709551615 ∧ z ≤ 18446744073709551615 := by
  have h1 : 256 ^ t ≤ 256 ^ 7 := Nat.pow_le_pow_right (by decide) (by omega)
  have h2 : b * 256 ^ t ≤ 255 * 256 ^ 7 := Nat.mul_le_mul (by omega) h1
  have hp : ((2 : Int) ^ (t * 8)) = ((256 ^ t : Nat) : Int) := by rw [Nat.mul_comm, show (256 : Nat) = 2 ^ 8 from rfl, ← Nat.pow_mul, Int.natCast_pow]; rfl
  have hcast : (b : Int) * 2 ^ (t * 8) = ((b * 256 ^ t : Nat) : Int) := by rw [hp, Int.natCast_mul]
  refine ⟨b * 256 ^ t, x + b * 256 ^ t, ?_, hcast, ?_, rfl, by omega, by omega, by omega⟩
  · rw [hcast]; exact IntWalk.u64_in _ (by omega)
  · rw [u64_or_nat x (b * 256 ^ t) (by omega) (by omega), or_shift x b t hx]
theorem qw_256 (m : Nat) : 18446744073709551616 ^ m = 256 ^ (8 * m) := by rw [Nat.pow_mul]

set_option maxHeartbeats 2000000 in
theorem limbs_any (n : Nat) (w : World) (hn : (nS n).size ≤ 100000) :
    Calls Tryz.prog 109 #[.string (nS n)] w fun e w' => ∃ g L, e = .returned (.slice (some ⟨g, 0, none⟩) (((nS n).size + 7) / 8) (((nS n).size + 7) / 8)) ∧ w.heap.size ≤ g ∧ Blk w' g 130 (qC L) ∧ QAt L 0 (((nS n).size + 7) / 8) n ∧ Below w.heap.size w w' := by
  obtain ⟨m, hm⟩ : ∃ m, m = ((nS n).size + 7) / 8 := ⟨_, rfl⟩
  have hm1 : m ≤ 12501 := by omega
  have hm2 : (nS n).size ≤ 8 * m := by omega
  rw [← hm]
  have hmi : (((nS n).size : Int) + 7) / 8 = (m : Int) := by omega
  have HM := Lib.hid hm
  clear hm
  have hmk := run_make_row' (P := Tryz.prog) 166 130 (.int .u64 0) 8 Tryz.underlying166 info_u64 rfl .i64 .i64 m (by omega) (by omega)
  have X0 : Hid (Blk (w.alloc (.cells (madeCells #[.int .u64 0] m) 130)) w.heap.size 130 (qC (qPart m n 0))) := by
    unfold Hid
    rw [qPart_zero, ← made_qC]
    exact Blk.new _ _ _
  have B0 := Lib.hid ((Below.refl w.heap.size w).alloc (Nat.le_refl _) (.cells (madeCells #[.int .u64 0] m) 130))
  go_enter Tryz.func109, Tryz.ntmps109
  go_wp2_with fail
  clear hmk hmi
  go_loopw [12] (fun i wr => ∃ k : Nat, i = .int .i64 k ∧ k ≤ (nS n).size ∧ Hid (Blk wr w.heap.size 130 (qC (qPart m n k))) ∧ Hid (Below w.heap.size w wr)) (fun i _ => (nS n).size - (intOf i).toNat)
  case atStart => exact ⟨0, rfl, by omega, X0, B0⟩
  case round =>
    clear X0 B0
    obtain ⟨k, rfl, hk, X, B⟩ := hrel
    by_cases hlt : k < (nS n).size
    · obtain ⟨x, b, t, hx, hb, ht, hxt, hst⟩ := qPart_step (m := m) (n := n) (i := k) (by omega)
      obtain ⟨j, hj⟩ : ∃ j, j = k / 8 := ⟨_, rfl⟩
      obtain ⟨p, hp⟩ : ∃ p, p = (nS n).size - 1 - k := ⟨_, rfl⟩
      have hpl : p < (nS n).size := by omega
      have hbv : (nS n)[p].toNat = b := by
        have h1 := digs_byte (n := n) (k := k) (by rw [← nS_size]; exact hlt)
        rw [← nS_size, ← hp] at h1
        have h2 : (nS n).data.toList[p]? = some (nS n)[p] := by rw [List.getElem?_eq_getElem (by rw [← ba_size]; exact hpl)]; rfl
        rw [nS_list, h1] at h2
        injection h2 with h2
        rw [← h2, u8_nat, hb]
      have hbl : b < 256 := by rw [hb]; exact Nat.mod_lt _ (by decide)
      obtain ⟨V, z, v1, v2, v3, v4, v5, v6, v7⟩ := or_limb x b t hxt hbl (by omega)
      rw [← hj] at hx hst
      have e1 : (k : Int) / 8 = (j : Int) := by omega
      have e2 : (k : Int) % 8 = (t : Int) := by omega
      have e3 : ((nS n).size : Int) - 1 - k = (p : Int) := by omega
      have hjm : j < m := by omega
      have t8 : t < 8 := by omega
      have cx : wr.cell? ⟨w.heap.size, j, none⟩ = some (.int .u64 x) := by rw [X.out.cell]; exact qC_at hx
      have fx := X.out.frozen j
      have X2 : Hid (Blk (wr.setCell ⟨w.heap.size, j, none⟩ (.int .u64 (z : Int))).drew w.heap.size 130 (qC (qPart m n (k + 1)))) := by
        unfold Hid
        rw [hst, ← v4, ← qC_set]
        exact (X.out.set_ j _).drew
      have B2 := Lib.hid ((B.out.setCell (p := ⟨w.heap.size, j, none⟩) (Nat.le_refl _) (.int .u64 (z : Int))).drew)
      clear hx hb ht hst hj hp v4
      go_wp2_with fail
      go_region
      go_wp2_with fail
      go_roundw
      case rel => exact ⟨k + 1, by go_num, by omega, X2, B2⟩
      case measure => simp [intOf]; omega
    · have hkn : k = (nS n).size := by omega
      subst hkn
      have hlow : n < 256 ^ (nS n).size := digs_low (by rw [nS_size]; exact Nat.le_refl _)
      have hQ : Hid (QAt (qPart m n (nS n).size) 0 m n) := by
        refine ⟨fun j hj => ?_, by rw [qPart_len]; omega, ?_⟩
        · rw [Nat.zero_add, qPart_at hj, Nat.mod_eq_of_lt hlow, qw_256]
        · rw [qw_256]; exact Nat.lt_of_lt_of_le hlow (Nat.pow_le_pow_right (by decide) hm2)
      clear hlow
      go_wp2_with fail
      go_ret
      exact ⟨w.heap.size, _, rfl, Nat.le_refl _, X.out, hQ.out, B.out⟩

/-! nat.cut -/
theorem QAt.less {L : List Nat} {o m n : Nat} (h : QAt L o (m + 1) n) (h0 : n / 18446744073709551616 ^ m % 18446744073709551616 = 0) : QAt L o m n := by
  refine ⟨fun j hj => h.at_ j (by omega), by have := h.len; omega, ?_⟩
  have h1 := h.lt
  have h2 : n / 18446744073709551616 ^ m < 18446744073709551616 := by rw [Nat.div_lt_iff_lt_mul (qw_pos m), Nat.mul_comm, ← Nat.pow_succ]; exact h1
  rw [Nat.mod_eq_of_lt h2] at h0
  rcases Nat.lt_or_ge n (18446744073709551616 ^ m) with h3 | h3
  · exact h3
  · have := Nat.div_pos h3 (qw_pos m); omega
theorem QAt.full {L : List Nat} {o m n : Nat} (h : QAt L o (m + 1) n) (h0 : n / 18446744073709551616 ^ m % 18446744073709551616 ≠ 0) : QL n (m + 1) := by
  refine ⟨h.lt, .inr ?_⟩
  rw [Nat.add_sub_cancel]
  rcases Nat.lt_or_ge n (18446744073709551616 ^ m) with h3 | h3
  · rw [Nat.div_eq_of_lt h3] at h0; exact absurd rfl h0
  · exact h3
def slLen : Value → Nat
  | .slice _ n _ => n
  | _ => 0
set_option maxHeartbeats 2000000 in
theorem cut_any (g o m c n : Nat) (L : List Nat) (w : World) (hm : m ≤ 30000) (hmc : m ≤ c) (hX : Blk w g 130 (qC L)) (hQ : QAt L o m n) :
    Calls Tryz.prog 125 #[.slice (some ⟨g, o, none⟩) m c] w fun e w' => ∃ k, e = .returned (.slice (some ⟨g, o, none⟩) k c) ∧ k ≤ m ∧ QAt L o k n ∧ QL n k ∧ w = w' := by
  have X0 := Lib.hid hX
  clear hX
  go_enter Tryz.func125, Tryz.ntmps125
  go_wp2_with fail
  go_loop [0] (fun x => ∃ k : Nat, x = .slice (some ⟨g, o, none⟩) k c ∧ k ≤ m ∧ Hid (QAt L o k n)) (fun x => slLen x)
  case atStart => exact ⟨m, rfl, Nat.le_refl _, hQ⟩
  case round =>
    clear hQ
    obtain ⟨k, rfl, hk, Q⟩ := hrel
    cases k with
    | zero =>
      go_wp2_with fail
      go_ret
      exact ⟨0, rfl, by omega, Q.out, ⟨Q.out.lt, .inl rfl⟩, rfl⟩
    | succ k =>
      obtain ⟨x, hx⟩ : ∃ x, x = n / 18446744073709551616 ^ k % 18446744073709551616 := ⟨_, rfl⟩
      have cx : w.cell? ⟨g, o + k, none⟩ = some (.int .u64 x) := by rw [X0.out.cell, hx]; exact qC_at (Q.out.at_ k (by omega))
      have hxl : x < 18446744073709551616 := by rw [hx]; exact qig_lt _ _
      by_cases h0 : x = 0
      · have Q2 := Lib.hid (Q.out.less (by rw [← hx]; exact h0))
        have hz : ((x : Int) == 0) = true := by rw [h0]; rfl
        have hkc : (k : Int) ≤ (c : Int) := by omega
        clear hx
        go_wp2_with fail
        go_round
        case rel => exact ⟨k, rfl, by omega, Q2⟩
        case measure => simp [slLen]
      · have Q2 := Lib.hid (Q.out.full (by rw [← hx]; exact h0))
        have hz : ((x : Int) == 0) = false := by rw [beq_eq_false_iff_ne]; omega
        clear hx
        go_wp2_with fail
        go_ret
        exact ⟨k + 1, rfl, hk, Q.out, Q2.out, rfl⟩

/-! nat.evens -/
theorem even_split {n k x : Nat} (hx0 : x ≠ 0) (hx : x = n / 18446744073709551616 ^ k % 18446744073709551616) (hn : n % 18446744073709551616 ^ k = 0) :
    ∃ q, n = 2 ^ (64 * k + Lib.ctz 64 x) * (2 * q + 1) ∧ Lib.ctz 64 x < 64 := by
  have hxl : x < 18446744073709551616 := by rw [hx]; exact qig_lt _ _
  obtain ⟨m, h1, h2⟩ := Lib.ctzFrom_spec 64 x (by omega) (by exact hxl)
  have hc : Lib.ctz 64 x = Lib.ctzFrom 64 x := by unfold Lib.ctz; rw [if_neg hx0]
  rw [← hc] at h1 h2
  generalize Lib.ctz 64 x = z at *
  have d1 := Nat.div_add_mod n (18446744073709551616 ^ k)
  have d2 := Nat.div_add_mod (n / 18446744073709551616 ^ k) 18446744073709551616
  rw [hn, Nat.add_zero] at d1
  rw [← hx] at d2
  have h64 : (18446744073709551616 : Nat) = 2 ^ z * (2 * 2 ^ (63 - z)) := by
    rw [show 2 * 2 ^ (63 - z) = 2 ^ (64 - z) by rw [show 64 - z = (63 - z) + 1 by omega, Nat.pow_succ, Nat.mul_comm], ← Nat.pow_add, show z + (64 - z) = 64 by omega]
  generalize n / 18446744073709551616 ^ k / 18446744073709551616 = H at *
  refine ⟨m + 2 ^ (63 - z) * H, ?_, h2⟩
  have hN : n / 18446744073709551616 ^ k = 2 ^ z * (2 * (m + 2 ^ (63 - z) * H) + 1) := by
    rw [← d2, show 18446744073709551616 * H = 2 ^ z * (2 * 2 ^ (63 - z)) * H by rw [← h64], h1]
    rw [Nat.mul_assoc, ← Nat.mul_add]
    congr 1
    rw [Nat.mul_add 2, ← Nat.mul_assoc]
    omega
  rw [hN] at d1
  rw [← d1, Nat.pow_add, show (2 : Nat) ^ (64 * k) = 18446744073709551616 ^ k by rw [Nat.pow_mul], Nat.mul_assoc]
set_option maxHeartbeats 2000000 in
theorem evens_any (g o m c n : Nat) (L : List Nat) (w : World) (hm : m ≤ 30000) (hX : Blk w g 130 (qC L)) (hQ : QAt L o m n) (hn : 0 < n) (hT : Tb w) :
    Calls Tryz.prog 110 #[.slice (some ⟨g, o, none⟩) m c] w fun e w' => ∃ z q : Nat, e = .returned (.int .i64 z) ∧ z < 64 * m ∧ n = 2 ^ z * (2 * q + 1) ∧ w = w' := by
  have X0 := Lib.hid hX
  have Q := Lib.hid hQ
  have T := Lib.hid hT
  clear hX hQ hT
  go_enter Tryz.func110, Tryz.ntmps110
  go_wp2_with fail
  go_loop [3] (fun x => ∃ k : Nat, x = .int .i64 k ∧ k ≤ m ∧ Hid (n % 18446744073709551616 ^ k = 0)) (fun x => m - (intOf x).toNat)
  case atStart => exact ⟨0, rfl, by omega, by simp [Hid, Nat.mod_one]⟩
  case round =>
    obtain ⟨k, rfl, hk, D⟩ := hrel
    have hkm : k < m := by
      rcases Nat.lt_or_ge k m with h | h
      · exact h
      · have h1 : k = m := by omega
        have h2 := D.out
        rw [h1, Nat.mod_eq_of_lt Q.out.lt] at h2
        omega
    obtain ⟨x, hx⟩ : ∃ x, x = n / 18446744073709551616 ^ k % 18446744073709551616 := ⟨_, rfl⟩
    have cx : w.cell? ⟨g, o + k, none⟩ = some (.int .u64 x) := by rw [X0.out.cell, hx]; exact qC_at (Q.out.at_ k hkm)
    have hxl : x < 18446744073709551616 := by rw [hx]; exact qig_lt _ _
    by_cases h0 : x = 0
    · have hz : ((x : Int) == 0) = true := by rw [h0]; rfl
      have D2 : Hid (n % 18446744073709551616 ^ (k + 1) = 0) := by
        unfold Hid
        rw [Nat.pow_succ, Nat.mod_mul, D.out, ← hx, h0, Nat.mul_zero]
      clear hx
      go_wp2_with fail
      go_round
      case rel => exact ⟨k + 1, by go_num, by omega, D2⟩
      case measure => simp [intOf]; omega
    · have hz : ((x : Int) == 0) = false := by rw [beq_eq_false_iff_ne]; omega
      obtain ⟨q, h1, h2⟩ := even_split h0 hx D.out
      have H1 := Lib.hid h1
      obtain ⟨z, hzz⟩ : ∃ z, z = Lib.ctz 64 x := ⟨_, rfl⟩
      have TZ := fun w hT => tz64_any x hxl h0 w hT
      rw [← hzz] at h2 H1 TZ
      clear hx h1 hzz
      go_wp2_with fail
      refine (TZ _ T.out).mono ?_
      rintro e w' ⟨rfl, rfl⟩
      clear TZ
      go_wp2_with fail
      go_ret
      exact ⟨64 * k + z, q, ret_int (by omega), by omega, H1.out, rfl⟩
end Go.Proofs.YtmfejdikfpckdaaGreatDoor

namespace Go.Proofs.YtmfejdikfpckdaaGreatDoor
open Go.RowKit
set_option linter.unusedVariables false
set_option maxRecDepth 100000

/-- Whether a borrow comes into digit i. -/
def qw (X Y i : Nat) : Nat := if X % 18446744073709551616 ^ i < Y % 18446744073709551616 ^ i then 1 else 0
theorem qw_zero (X Y : Nat) : qw X Y 0 = 0 := by simp [qw, Nat.mod_one]
theorem qw_le (X Y i : Nat) : qw X Y i ≤ 1 := by unfold qw; split <;> omega
theorem qw_step {X Y i x y : Nat} (h : Y ≤ X) (hx : x = X / 18446744073709551616 ^ i % 18446744073709551616) (hy : y = Y / 18446744073709551616 ^ i % 18446744073709551616) :
    (y + qw X Y i ≤ x ∧ qw X Y (i + 1) = 0 ∧ (X - Y) / 18446744073709551616 ^ i % 18446744073709551616 = x - y - qw X Y i) ∨ (x < y + qw X Y i ∧ qw X Y (i + 1) = 1 ∧ (X - Y) / 18446744073709551616 ^ i % 18446744073709551616 = 18446744073709551616 + x - y - qw X Y i) := by
  have hA : 0 < 18446744073709551616 ^ i := Nat.pow_pos (by decide)
  have key := sub_div X Y (18446744073709551616 ^ i) hA h
  have m1 : X % 18446744073709551616 ^ (i + 1) = X % 18446744073709551616 ^ i + 18446744073709551616 ^ i * x := by rw [Nat.pow_succ, Nat.mod_mul, hx]
  have m2 : Y % 18446744073709551616 ^ (i + 1) = Y % 18446744073709551616 ^ i + 18446744073709551616 ^ i * y := by rw [Nat.pow_succ, Nat.mod_mul, hy]
  have r1 := Nat.mod_lt X hA
  have r2 := Nat.mod_lt Y hA
  have kb : qw X Y i = if X % 18446744073709551616 ^ i < Y % 18446744073709551616 ^ i then 1 else 0 := rfl
  have kb1 : qw X Y (i + 1) = if X % 18446744073709551616 ^ (i + 1) < Y % 18446744073709551616 ^ (i + 1) then 1 else 0 := rfl
  rw [← kb] at key
  rw [m1, m2] at kb1
  generalize 18446744073709551616 ^ i = A at *
  generalize X / A = P at *
  generalize Y / A = Q at *
  generalize X % A = R at *
  generalize Y % A = S at *
  have hb := qw_le X Y i
  by_cases hc : R < S
  · rw [if_pos hc] at kb
    rw [kb] at key ⊢
    by_cases hxy : x < y + 1
    · right
      have : A * x + A ≤ A * (y + 1) := by rw [← Nat.mul_succ]; exact Nat.mul_le_mul_left A (by omega)
      rw [Nat.mul_succ] at this
      rw [if_pos (by omega)] at kb1
      exact ⟨hxy, kb1, by omega⟩
    · left
      have : A * (y + 1) ≤ A * x := Nat.mul_le_mul_left A (by omega)
      rw [Nat.mul_succ] at this
      rw [if_neg (by omega)] at kb1
      exact ⟨by omega, kb1, by omega⟩
  · rw [if_neg hc] at kb
    rw [kb] at key ⊢
    by_cases hxy : x < y
    · right
      have : A * (x + 1) ≤ A * y := Nat.mul_le_mul_left A (by omega)
      rw [Nat.mul_succ] at this
      rw [if_pos (by omega)] at kb1
      exact ⟨by omega, kb1, by omega⟩
    · left
      have : A * y ≤ A * x := Nat.mul_le_mul_left A (by omega)
      rw [if_neg (by omega)] at kb1
      exact ⟨by omega, kb1, by omega⟩

theorem two64 {s : Nat} (hs : s ≤ 64) : 18446744073709551616 = 2 ^ s * 2 ^ (64 - s) := by
  rw [← Nat.pow_add, show s + (64 - s) = 64 by omega]
theorem shr64_nums {R s i x y : Nat} (hs : s ≤ 63) (hx : x = R / 18446744073709551616 ^ i % 18446744073709551616) (hy : y = R / 18446744073709551616 ^ (i + 1) % 18446744073709551616) :
    ∃ x0 v0 z : Nat, (x : Int) / 2 ^ s = (x0 : Int) ∧ IntKind.u64.wrap ((y : Int) * 2 ^ (64 - s)) = (v0 : Int) ∧ bits .or .u64 (x0 : Int) (v0 : Int) = (z : Int) ∧ x0 ≤ 18446744073709551615 ∧ v0 ≤ 18446744073709551615 ∧ z ≤ 18446744073709551615 ∧
      R / 2 ^ s / 18446744073709551616 ^ i % 18446744073709551616 = z ∧ (y = 0 → z = x0) := by
  have hxl : x < 18446744073709551616 := by rw [hx]; exact qig_lt _ _
  have hyl : y < 18446744073709551616 := by rw [hy]; exact qig_lt _ _
  have hS : 0 < 2 ^ s := Nat.pow_pos (by decide)
  have hC : 0 < 2 ^ (64 - s) := Nat.pow_pos (by decide)
  have h32 := two64 (s := s) (by omega)
  have hx0 : x / 2 ^ s < 2 ^ (64 - s) := by rw [Nat.div_lt_iff_lt_mul hS, Nat.mul_comm, ← h32]; exact hxl
  have hv0 : y * 2 ^ (64 - s) % 18446744073709551616 = 2 ^ (64 - s) * (y % 2 ^ s) := by
    conv => lhs; rw [h32, Nat.mul_comm y, Nat.mul_comm (2 ^ s)]
    exact Nat.mul_mod_mul_left _ _ _
  have hor := or_low (o := x / 2 ^ s) (t := y % 2 ^ s) (s := 64 - s) hx0
  rw [← hv0] at hor
  have hsum : x / 2 ^ s + y * 2 ^ (64 - s) % 18446744073709551616 < 18446744073709551616 := by
    have h1 : y % 2 ^ s + 1 ≤ 2 ^ s := Nat.mod_lt y hS
    have h2 := Nat.mul_le_mul_left (2 ^ (64 - s)) h1
    rw [Nat.mul_comm (2 ^ (64 - s)) (2 ^ s), ← h32, Nat.mul_add, ← hv0] at h2
    omega
  have hdig : R / 2 ^ s / 18446744073709551616 ^ i % 18446744073709551616 = x / 2 ^ s + y * 2 ^ (64 - s) % 18446744073709551616 := by
    have e1 : R / 18446744073709551616 ^ i = x + 18446744073709551616 * (R / 18446744073709551616 ^ (i + 1)) := by
      have := Nat.div_add_mod (R / 18446744073709551616 ^ i) 18446744073709551616
      rw [Nat.div_div_eq_div_mul, ← Nat.pow_succ, ← hx] at this
      show R / 18446744073709551616 ^ i = x + 18446744073709551616 * (R / 18446744073709551616 ^ i.succ)
      omega
    have e2 : R / 18446744073709551616 ^ (i + 1) = y + 18446744073709551616 * (R / 18446744073709551616 ^ (i + 1) / 18446744073709551616) := by
      have := Nat.div_add_mod (R / 18446744073709551616 ^ (i + 1)) 18446744073709551616
      rw [← hy] at this
      omega
    have e3 : R / 2 ^ s / 18446744073709551616 ^ i = x / 2 ^ s + 2 ^ (64 - s) * (R / 18446744073709551616 ^ (i + 1)) := by
      rw [Nat.div_div_eq_div_mul, Nat.mul_comm, ← Nat.div_div_eq_div_mul, e1]
      generalize R / 18446744073709551616 ^ (i + 1) = H
      rw [show x + 18446744073709551616 * H = x + 2 ^ s * (2 ^ (64 - s) * H) by rw [← Nat.mul_assoc, ← h32], Nat.add_mul_div_left _ _ hS]
    rw [e3, e2, Nat.mul_add, show 2 ^ (64 - s) * (18446744073709551616 * (R / 18446744073709551616 ^ (i + 1) / 18446744073709551616)) = 18446744073709551616 * (2 ^ (64 - s) * (R / 18446744073709551616 ^ (i + 1) / 18446744073709551616)) by ac_rfl, ← Nat.add_assoc, Nat.add_mul_mod_self_left, Nat.mul_comm (2 ^ (64 - s)) y, Nat.add_mod]
    rw [Nat.mod_eq_of_lt (show x / 2 ^ s < 18446744073709551616 by omega)]
    exact Nat.mod_eq_of_lt hsum
  have hpi : ((2 : Int) ^ (64 - s)) = ((2 ^ (64 - s) : Nat) : Int) := by rw [Int.natCast_pow]; rfl
  have hpi2 : ((2 : Int) ^ s) = ((2 ^ s : Nat) : Int) := by rw [Int.natCast_pow]; rfl
  have hcast : (y : Int) * 2 ^ (64 - s) = ((y * 2 ^ (64 - s) : Nat) : Int) := by rw [hpi, Int.natCast_mul]
  have hy0 : y = 0 → y * 2 ^ (64 - s) % 18446744073709551616 = 0 := fun e => by rw [e, Nat.zero_mul]
  have hwr : IntKind.u64.wrap ((y : Int) * 2 ^ (64 - s)) = ((y * 2 ^ (64 - s) % 18446744073709551616 : Nat) : Int) := by
    rw [hcast, Int.natCast_emod]; simp [IntKind.wrap, IntKind.bits, IntKind.signed]
  have hvl : y * 2 ^ (64 - s) % 18446744073709551616 < 18446744073709551616 := Nat.mod_lt _ (by decide)
  generalize y * 2 ^ (64 - s) % 18446744073709551616 = v at *
  refine ⟨x / 2 ^ s, v, x / 2 ^ s + v, by rw [hpi2, Int.natCast_ediv], hwr, ?_, by omega, by omega, by omega, hdig, fun e => by rw [hy0 e, Nat.add_zero]⟩
  rw [u64_or_nat (x / 2 ^ s) v (by omega) (by omega), hor]
theorem qig_high {Y k j : Nat} (h : Y < 18446744073709551616 ^ k) (hj : k ≤ j) : Y / 18446744073709551616 ^ j % 18446744073709551616 = 0 := by
  rw [Nat.div_eq_of_lt (Nat.lt_of_lt_of_le h (Nat.pow_le_pow_right (by decide) hj))]

/-- The first i digits from o on are those of S, the next up to m those of N. -/
structure QTo (L : List Nat) (o m i S N : Nat) : Prop where
  lo : ∀ j, j < i → L[o + j]? = some (S / 18446744073709551616 ^ j % 18446744073709551616)
  hi : ∀ j, i ≤ j → j < m → L[o + j]? = some (N / 18446744073709551616 ^ j % 18446744073709551616)
  len : o + m ≤ L.length
theorem QTo.step {L : List Nat} {o m i S N d : Nat} (h : QTo L o m i S N) (hi : i < m) (hd : S / 18446744073709551616 ^ i % 18446744073709551616 = d) : QTo (L.set (o + i) d) o m (i + 1) S N := by
  refine ⟨fun j hj => ?_, fun j h1 h2 => ?_, by rw [List.length_set]; exact h.len⟩
  · rw [List.getElem?_set]
    by_cases e : o + i = o + j
    · rw [if_pos e, if_pos (by have := h.len; omega), ← hd, show j = i by omega]
    · rw [if_neg e]; exact h.lo j (by omega)
  · rw [List.getElem?_set, if_neg (by omega)]; exact h.hi j (by omega) h2
theorem QTo.done {L : List Nat} {o m S N : Nat} (h : QTo L o m m S N) (hS : S < 18446744073709551616 ^ m) : QAt L o m S := ⟨h.lo, h.len, hS⟩
theorem QTo.start {L : List Nat} {o m S N : Nat} (h : QAt L o m N) : QTo L o m 0 S N := ⟨fun j hj => absurd hj (by omega), fun j _ hj => h.at_ j hj, h.len⟩

set_option maxHeartbeats 4000000 in
theorem right_any (g o m c n by_ : Nat) (L : List Nat) (w : World) (hm : m ≤ 30000) (hc : c ≤ 100000) (hmc : m ≤ c) (hX : Blk w g 130 (qC L)) (hQ : QAt L o m n) (hby : by_ < 64 * m) :
    Calls Tryz.prog 111 #[.slice (some ⟨g, o, none⟩) m c, .int .i64 by_] w fun e w' => ∃ o' k c' L', e = .returned (.slice (some ⟨g, o', none⟩) k c') ∧ k ≤ m ∧ k ≤ c' ∧ c' ≤ c ∧ Blk w' g 130 (qC L') ∧ QAt L' o' k (n / 2 ^ by_) ∧ QL (n / 2 ^ by_) k ∧ GrB w w' (some g) := by
  obtain ⟨q, hq⟩ : ∃ q, q = by_ / 64 := ⟨_, rfl⟩
  obtain ⟨s, hs⟩ : ∃ s, s = by_ % 64 := ⟨_, rfl⟩
  obtain ⟨N, hN⟩ : ∃ N, N = n / 18446744073709551616 ^ q := ⟨_, rfl⟩
  obtain ⟨m2, hm2⟩ : ∃ m2, m = q + m2 := ⟨m - q, by omega⟩
  have hNS : N / 2 ^ s = n / 2 ^ by_ := by
    rw [hN, Nat.div_div_eq_div_mul, show (18446744073709551616 : Nat) = 2 ^ 64 from rfl, ← Nat.pow_mul, ← Nat.pow_add, show 64 * q + s = by_ by omega]
  have hQN : QAt L (o + q) m2 N := by
    refine ⟨fun j hj => ?_, by have := hQ.len; omega, ?_⟩
    · have := hQ.at_ (q + j) (by omega)
      rw [← Nat.add_assoc, Nat.pow_add, ← Nat.div_div_eq_div_mul, ← hN] at this
      exact this
    · rw [hN, Nat.div_lt_iff_lt_mul (qw_pos q), ← Nat.pow_add, show m2 + q = m by omega]
      exact hQ.lt
  have hNl : N / 2 ^ s < 18446744073709551616 ^ m2 := Nat.lt_of_le_of_lt (Nat.div_le_self _ _) hQN.lt
  have e1 : (by_ : Int) / 64 = (q : Int) := by omega
  have e2 : (by_ : Int) % 64 = (s : Int) := by omega
  have e3 : m - q = m2 := by omega
  have e4 : (q : Int) ≤ (m : Int) := by omega
  have e5 : ¬ c = q := by omega
  have e6 : (m : Int) ≤ (c : Int) := by omega
  have hs63 : s ≤ 63 := by omega
  have HNS := Lib.hid hNS
  have HQN := Lib.hid hQN
  have HNl := Lib.hid hNl
  have X0 := Lib.hid hX
  have hm2l : m2 ≤ 30000 := by omega
  have hm2m : m2 ≤ m := by omega
  have hqc : m2 ≤ c - q := by omega
  clear hq hs hN hm2 hNS hQN hNl hX hQ
  by_cases hs0 : s = 0
  · subst hs0
    have H0 : Hid (N = n / 2 ^ by_) := by have := HNS.out; rw [Nat.pow_zero, Nat.div_one] at this; exact this
    clear HNS
    have e2z : (by_ : Int) % 64 = 0 := e2
    clear e2
    go_enter Tryz.func111, Tryz.ntmps111
    go_wp2_with fail
    refine (cut_any g (o + q) m2 _ N L _ hm2l hqc X0.out HQN.out).mono ?_
    rintro e w' ⟨k, rfl, hk, hQ2, hL2, rfl⟩
    have Q2 := Lib.hid hQ2
    have L2 := Lib.hid hL2
    clear hQ2 hL2
    go_wp2_with fail
    go_ret
    exact ⟨_, k, _, L, rfl, by omega, by omega, by omega, X0.out, by rw [← H0.out]; exact Q2.out, by rw [← H0.out]; exact L2.out, GrB.refl w _⟩
  · have hsp : 0 < (s : Int) := by omega
    have hsn : 0 < s := by omega
    go_enter Tryz.func111, Tryz.ntmps111
    go_wp2_with fail
    go_loopw [16] (fun i wr => ∃ (j : Nat) (L' : List Nat), i = .int .i64 j ∧ j ≤ m2 ∧ Hid (Blk wr g 130 (qC L')) ∧ Hid (QTo L' (o + q) m2 j (N / 2 ^ s) N) ∧ Hid (GrB w wr (some g))) (fun i _ => m2 - (intOf i).toNat)
    case atStart => exact ⟨0, L, rfl, by omega, X0, QTo.start HQN.out, GrB.refl w _⟩
    case round =>
      obtain ⟨j, L', rfl, hj, X, Q, G⟩ := hrel
      by_cases hlt : j < m2
      · obtain ⟨x, hx⟩ : ∃ x, x = N / 18446744073709551616 ^ j % 18446744073709551616 := ⟨_, rfl⟩
        obtain ⟨y, hy⟩ : ∃ y, y = N / 18446744073709551616 ^ (j + 1) % 18446744073709551616 := ⟨_, rfl⟩
        obtain ⟨x0, v0, z, h1, h2, h3, l1, l2, l3, h4, h5⟩ := shr64_nums hs63 hx hy
        have hxl : x < 18446744073709551616 := by rw [hx]; exact qig_lt _ _
        have hyl : y < 18446744073709551616 := by rw [hy]; exact qig_lt _ _
        have cX : wr.cell? ⟨g, o + q + j, none⟩ = some (.int .u64 x) := by rw [X.out.cell, hx]; exact qC_at (Q.out.hi j (Nat.le_refl _) hlt)
        have fX := X.out.frozen (o + q + j)
        have Q2 := Lib.hid (Q.out.step hlt h4)
        by_cases hj1 : j + 1 < m2
        · have cY : wr.cell? ⟨g, o + q + (j + 1), none⟩ = some (.int .u64 y) := by rw [X.out.cell, hy]; exact qC_at (Q.out.hi (j + 1) (by omega) hj1)
          have X2 : Hid (Blk ((wr.setCell ⟨g, o + q + j, none⟩ (.int .u64 (x0 : Int))).drew.setCell ⟨g, o + q + j, none⟩ (.int .u64 (z : Int))) g 130 (qC (L'.set (o + q + j) z))) := by
            have := ((X.out.set_ (o + q + j) (.int .u64 (x0 : Int))).drew).set_ (o + q + j) (.int .u64 (z : Int))
            rw [qC_set, qC_set, List.set_set] at this
            exact this
          have G2 := Lib.hid (grown_set (grown_drew (grown_set G.out (o + q + j) (.int .u64 (x0 : Int)))) (o + q + j) (.int .u64 (z : Int)))
          clear hx hy h4 h5
          go_wp2_with fail
          go_region
          go_wp2_with fail
          go_roundw
          case rel => exact ⟨j + 1, _, by go_num, by omega, X2, Q2, G2⟩
          case measure => simp [intOf]; omega
        · have hy0 : y = 0 := by rw [hy]; exact qig_high HQN.out.lt (by omega)
          have hz0 := h5 hy0
          have X2 : Hid (Blk (wr.setCell ⟨g, o + q + j, none⟩ (.int .u64 (x0 : Int))) g 130 (qC (L'.set (o + q + j) z))) := by
            unfold Hid
            rw [hz0, ← qC_set]
            exact X.out.set_ (o + q + j) _
          have G2 := Lib.hid (grown_set G.out (o + q + j) (.int .u64 (x0 : Int)))
          clear hx hy h4 h5 hy0 hz0 h2 h3
          go_wp2_with fail
          go_roundw
          case rel => exact ⟨j + 1, _, by go_num, by omega, X2, Q2, G2⟩
          case measure => simp [intOf]; omega
      · have hjm : j = m2 := by omega
        subst hjm
        have QF := Q.out.done HNl.out
        rw [HNS.out] at QF
        have QF2 := Lib.hid QF
        clear QF
        go_wp2_with fail
        refine (cut_any g (o + q) j _ (n / 2 ^ by_) L' _ hm2l hqc X.out QF2.out).mono ?_
        rintro e w' ⟨k, rfl, hk, hQ2, hL2, rfl⟩
        have Q2 := Lib.hid hQ2
        have L2 := Lib.hid hL2
        clear hQ2 hL2
        go_wp2_with fail
        go_ret
        exact ⟨_, k, _, L', rfl, by omega, by omega, by omega, X.out, Q2.out, L2.out, G.out⟩

/-! nat.below -/
theorem below_step {a b k x y : Nat} (h : a / 18446744073709551616 ^ (k + 1) = b / 18446744073709551616 ^ (k + 1)) (hx : x = a / 18446744073709551616 ^ k % 18446744073709551616) (hy : y = b / 18446744073709551616 ^ k % 18446744073709551616) :
    (x = y → a / 18446744073709551616 ^ k = b / 18446744073709551616 ^ k) ∧ (x < y → a < b) ∧ (y < x → b < a) := by
  have d1 := Nat.div_add_mod (a / 18446744073709551616 ^ k) 18446744073709551616
  have d2 := Nat.div_add_mod (b / 18446744073709551616 ^ k) 18446744073709551616
  rw [Nat.div_div_eq_div_mul, ← Nat.pow_succ, ← hx] at d1
  rw [Nat.div_div_eq_div_mul, ← Nat.pow_succ, ← hy] at d2
  have h' : a / 18446744073709551616 ^ k.succ = b / 18446744073709551616 ^ k.succ := h
  rw [h'] at d1
  have lt_of : ∀ {u v : Nat}, u / 18446744073709551616 ^ k < v / 18446744073709551616 ^ k → u < v := fun {u v} h => by
    rcases Nat.lt_or_ge u v with h1 | h1
    · exact h1
    · have := Nat.div_le_div_right (c := 18446744073709551616 ^ k) h1; omega
  exact ⟨fun e => by omega, fun e => lt_of (by omega), fun e => lt_of (by omega)⟩
set_option maxHeartbeats 4000000 in
theorem natBelow_any (g1 o1 m1 c1 a g2 o2 m2 c2 b : Nat) (L1 L2 : List Nat) (w : World) (hm : m1 ≤ 30000) (hm2 : m2 ≤ 30000) (hX : Blk w g1 130 (qC L1)) (hQ : QAt L1 o1 m1 a) (hX2 : Blk w g2 130 (qC L2)) (hQ2 : QAt L2 o2 m2 b) (hl : QL a m1) (hl2 : QL b m2) :
    Calls Tryz.prog 112 #[.slice (some ⟨g1, o1, none⟩) m1 c1, .slice (some ⟨g2, o2, none⟩) m2 c2] w fun e w' => e = .returned (.bool (decide (a < b))) ∧ ∃ q, w' = w.drewN q := by
  have X1 := Lib.hid hX
  have X2 := Lib.hid hX2
  have Q1 := Lib.hid hQ
  have Q2 := Lib.hid hQ2
  have HL1 := Lib.hid hl
  have HL2 := Lib.hid hl2
  clear hX hX2 hQ hQ2 hl hl2
  by_cases hne : m1 = m2
  · subst hne
    go_enter Tryz.func112, Tryz.ntmps112
    go_wp2_with fail
    obtain ⟨i0, hi0⟩ : ∃ i0 : Int, i0 = (m1 : Int) - 1 := ⟨_, rfl⟩
    rw [← hi0]
    go_loopw [5] (fun i wr => ∃ k n : Nat, i = .int .i64 ((k : Int) - 1) ∧ k ≤ m1 ∧ Hid (a / 18446744073709551616 ^ k = b / 18446744073709551616 ^ k) ∧ wr = w.drewN n) (fun i _ => (intOf i + 1).toNat)
    case atStart => exact ⟨m1, 0, by rw [hi0], Nat.le_refl _, by unfold Hid; rw [Nat.div_eq_of_lt Q1.out.lt, Nat.div_eq_of_lt Q2.out.lt], rfl⟩
    case round =>
      clear hi0
      obtain ⟨k, n, rfl, hk, D, rfl⟩ := hrel
      cases k with
      | zero =>
        have hab : decide (a < b) = false := by
          have := D.out
          rw [Nat.pow_zero, Nat.div_one, Nat.div_one] at this
          rw [this]; simp
        have HAB := Lib.hid hab
        clear hab
        go_wp2_with fail
        go_ret
        exact ⟨congrArg (fun b => Ending.returned (.bool b)) HAB.out.symm, n, rfl⟩
      | succ j =>
        obtain ⟨x, hx⟩ : ∃ x, x = a / 18446744073709551616 ^ j % 18446744073709551616 := ⟨_, rfl⟩
        obtain ⟨y, hy⟩ : ∃ y, y = b / 18446744073709551616 ^ j % 18446744073709551616 := ⟨_, rfl⟩
        obtain ⟨s1, s2, s3⟩ := below_step D.out hx hy
        have hxl : x < 18446744073709551616 := by rw [hx]; exact qig_lt _ _
        have hyl : y < 18446744073709551616 := by rw [hy]; exact qig_lt _ _
        have cX : w.cell? ⟨g1, o1 + j, none⟩ = some (.int .u64 x) := by rw [X1.out.cell, hx]; exact qC_at (Q1.out.at_ j (by omega))
        have cY : w.cell? ⟨g2, o2 + j, none⟩ = some (.int .u64 y) := by rw [X2.out.cell, hy]; exact qC_at (Q2.out.at_ j (by omega))
        have hjm : j < m1 := by omega
        have hj1 : ((j + 1 : Nat) : Int) - 1 = (j : Int) := by omega
        rw [hj1]
        clear hj1 hx hy
        by_cases hxy : x = y
        · have D2 := Lib.hid (s1 hxy)
          subst hxy
          clear s1 s2 s3
          go_wp2_with fail
          go_quiet (fail)
          go_wp2_with fail
          go_roundw
          case rel => exact ⟨j, _, rfl, by omega, D2, rfl⟩
          case measure => simp [intOf]
        · have hn1 : ((x : Int) == y) = false := by rw [beq_eq_false_iff_ne]; omega
          have hn2 : ((x : Int) != y) = true := by rw [bne, hn1]; rfl
          have HAB : Hid (decide (x < y) = decide (a < b)) := by
            unfold Hid
            rcases Nat.lt_or_ge x y with h | h
            · rw [decide_eq_true h, decide_eq_true (s2 h)]
            · have := s3 (by omega)
              rw [decide_eq_false (by omega), decide_eq_false (by omega)]
          clear s1 s2 s3
          go_wp2_with fail
          go_quiet (fail)
          go_wp2_with fail
          go_quiet (fail)
          go_wp2_with fail
          go_ret
          exact ⟨congrArg (fun b => Ending.returned (.bool b)) HAB.out, _, by rw [World.drewN_drewN, World.drewN_drewN]⟩
  · have hn1 : ((m1 : Int) == m2) = false := by rw [beq_eq_false_iff_ne]; omega
    have hn2 : ((m1 : Int) != m2) = true := by rw [bne, hn1]; rfl
    have HAB : Hid (decide (m1 < m2) = decide (a < b)) := by
      unfold Hid
      rcases Nat.lt_or_ge m1 m2 with h | h
      · rw [decide_eq_true h, decide_eq_true (HL1.out.lt HL2.out h)]
      · have := HL2.out.lt HL1.out (show m2 < m1 by omega)
        rw [decide_eq_false (by omega), decide_eq_false (by omega)]
    go_enter Tryz.func112, Tryz.ntmps112
    go_wp2_with fail
    go_ret
    exact ⟨congrArg (fun b => Ending.returned (.bool b)) HAB.out, 0, rfl⟩

/-! nat.minus -/
theorem minus_nums {X Y i x y b : Nat} (h : Y ≤ X) (hx : x = X / 18446744073709551616 ^ i % 18446744073709551616) (hy : y = Y / 18446744073709551616 ^ i % 18446744073709551616) (hb : b = qw X Y i) :
    ∃ d b' : Nat, (x + 18446744073709551616 - y - b) % 18446744073709551616 = d ∧ (if x < y + b then 1 else 0) = b' ∧ b' = qw X Y (i + 1) ∧ (X - Y) / 18446744073709551616 ^ i % 18446744073709551616 = d ∧ d < 18446744073709551616 ∧ b' ≤ 1 := by
  have hxl : x < 18446744073709551616 := by rw [hx]; exact qig_lt _ _
  have hyl : y < 18446744073709551616 := by rw [hy]; exact qig_lt _ _
  have hbl := qw_le X Y i
  rw [← hb] at hbl
  rcases qw_step h hx hy with ⟨h1, h2, h3⟩ | ⟨h1, h2, h3⟩
  · rw [← hb] at h1 h3
    exact ⟨x - y - b, 0, by omega, if_neg (by omega), h2.symm, h3, by omega, by omega⟩
  · rw [← hb] at h1 h3
    exact ⟨18446744073709551616 + x - y - b, 1, by omega, if_pos (by omega), h2.symm, h3, by omega, by omega⟩
set_option maxHeartbeats 4000000 in
theorem minus_any (g1 o1 m1 c1 a g2 o2 m2 c2 b : Nat) (L1 L2 : List Nat) (w : World) (hm : m1 ≤ 30000) (hm2 : m2 ≤ 30000) (hmc : m1 ≤ c1) (hX : Blk w g1 130 (qC L1)) (hQ : QAt L1 o1 m1 a) (hX2 : Blk w g2 130 (qC L2)) (hQ2 : QAt L2 o2 m2 b) (hne : g2 ≠ g1) (hle : b ≤ a) :
    Calls Tryz.prog 113 #[.slice (some ⟨g1, o1, none⟩) m1 c1, .slice (some ⟨g2, o2, none⟩) m2 c2] w fun e w' => ∃ k L', e = .returned (.slice (some ⟨g1, o1, none⟩) k c1) ∧ k ≤ m1 ∧ Blk w' g1 130 (qC L') ∧ QAt L' o1 k (a - b) ∧ QL (a - b) k ∧ GrB w w' (some g1) := by
  have X1 := Lib.hid hX
  have X2 := Lib.hid hX2
  have Q1 := Lib.hid hQ
  have Q2 := Lib.hid hQ2
  have HNE := Lib.hid hne
  have HLE := Lib.hid hle
  clear hX hX2 hQ hQ2 hne hle
  go_enter Tryz.func113, Tryz.ntmps113
  go_wp2_with fail
  go_loopw [5, 10] (fun bo i wr => ∃ (j : Nat) (L' : List Nat), i = .int .i64 j ∧ j ≤ m1 ∧ bo = .int .u64 (qw a b j) ∧ Hid (Blk wr g1 130 (qC L')) ∧ Hid (QTo L' o1 m1 j (a - b) a) ∧ Hid (GrB w wr (some g1))) (fun _ i _ => m1 - (intOf i).toNat)
  case atStart => exact ⟨0, L1, rfl, by omega, by rw [qw_zero]; rfl, X1, QTo.start Q1.out, GrB.refl w _⟩
  case round =>
    obtain ⟨j, L', rfl, hj, rfl, X, Q, G⟩ := hrel
    by_cases hlt : j < m1
    · obtain ⟨x, hx⟩ : ∃ x, x = a / 18446744073709551616 ^ j % 18446744073709551616 := ⟨_, rfl⟩
      obtain ⟨y, hy⟩ : ∃ y, y = b / 18446744073709551616 ^ j % 18446744073709551616 := ⟨_, rfl⟩
      obtain ⟨bo, hbo⟩ : ∃ bo, bo = qw a b j := ⟨_, rfl⟩
      obtain ⟨d, b', h1, h2, h3, h4, h5, h6⟩ := minus_nums HLE.out hx hy hbo
      have hbl : bo ≤ 1 := by rw [hbo]; exact qw_le _ _ _
      have hxl : x < 18446744073709551616 := by rw [hx]; exact qig_lt _ _
      have hyl : y < 18446744073709551616 := by rw [hy]; exact qig_lt _ _
      have cX : wr.cell? ⟨g1, o1 + j, none⟩ = some (.int .u64 x) := by rw [X.out.cell, hx]; exact qC_at (Q.out.hi j (Nat.le_refl _) hlt)
      have fX := X.out.frozen (o1 + j)
      have QN := Lib.hid (Q.out.step hlt h4)
      have XN : Hid (Blk (wr.setCell ⟨g1, o1 + j, none⟩ (.int .u64 (d : Int))) g1 130 (qC (L'.set (o1 + j) d))) := by unfold Hid; rw [← qC_set]; exact X.out.set_ (o1 + j) _
      have GN := Lib.hid (grown_set G.out (o1 + j) (.int .u64 (d : Int)))
      have HB : Hid ((.int .u64 (b' : Int) : Value) = .int .u64 (qw a b (j + 1))) := by unfold Hid; rw [h3]
      have SB : ∀ w, (callFunc 126 #[.int .u64 x, .int .u64 y, .int .u64 bo]).run Tryz.prog w = .ok (.value (.tuple #[.int .u64 (d : Int), .int .u64 (b' : Int)])) w := fun w => by rw [sub64_run x y bo hbl w, h1, h2]
      rw [← hbo]
      by_cases hj2 : j < m2
      · have cY : wr.cell? ⟨g2, o2 + j, none⟩ = some (.int .u64 y) := by rw [(X2.out.grown G.out (by simpa using HNE.out)).cell, hy]; exact qC_at (Q2.out.at_ j hj2)
        clear hx hy hbo h1 h2 h3 h4
        go_wp2_with (simp only [SB])
        go_roundw
        case rel => exact ⟨j + 1, _, by go_num, by omega, HB.out, XN, QN, GN⟩
        case measure => simp [intOf]; omega
      · have hy0 : y = 0 := by rw [hy]; exact qig_high Q2.out.lt (by omega)
        subst hy0
        have SB0 : ∀ w, (callFunc 126 #[.int .u64 x, .int .u64 0, .int .u64 bo]).run Tryz.prog w = .ok (.value (.tuple #[.int .u64 (d : Int), .int .u64 (b' : Int)])) w := SB
        clear hx hy hbo h1 h2 h3 h4
        go_wp2_with (simp only [SB0])
        go_roundw
        case rel => exact ⟨j + 1, _, by go_num, by omega, HB.out, XN, QN, GN⟩
        case measure => simp [intOf]; omega
    · have hjm : j = m1 := by omega
      subst hjm
      have QF := Lib.hid (Q.out.done (Nat.lt_of_le_of_lt (Nat.sub_le a b) Q1.out.lt))
      go_wp2_with fail
      refine (cut_any g1 o1 j _ (a - b) L' _ hm hmc X.out QF.out).mono ?_
      rintro e w' ⟨k, rfl, hk, hQ2, hL2, rfl⟩
      have Q2 := Lib.hid hQ2
      have L2 := Lib.hid hL2
      clear hQ2 hL2
      go_wp2_with fail
      go_ret
      exact ⟨k, L', rfl, hk, X.out, Q2.out, L2.out, G.out⟩
end Go.Proofs.YtmfejdikfpckdaaGreatDoor
