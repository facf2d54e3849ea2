/- The walk of nat.halves (the greatest common divisor by halving). Printed by gen/numo.py. · The walk of nat.Gcd for numbers of any length. Printed by gen/nump.py. · Rational numbers as three cells; the walks of rat.Good, zero, fit. · The walks of rat.made, signed; plain lemmas on quotients. · The walks of rat.Mul (trial). · The walks of rat.Div, Cmp, Neg, Sub, Of, Min, Max, Sign. Printed by gen/rat2.py. · The walks of rat.Neg, Sub, Min, Max, Sign, Of. Printed by gen/rat3.py. · The walks of span.Good, fit, Of, Has and of see.norm. Printed by gen/span.py. · The sizes of sums, products and quotients. No walk. -/
import Derived.Test.YtmfejdikfpckdaaGreatDoorFc15
import Derived.Deep.LoopGhost
import Derived.Test.YtmfejdikfpckdaaGreatDoorFc3
namespace Go.Proofs.YtmfejdikfpckdaaGreatDoor
open Go.RowKit
set_option linter.unusedVariables false
set_option maxRecDepth 100000

theorem odd_two {A q : Nat} (h : A = 2 * q + 1) : Nat.Coprime 2 A := by
  subst h; show Nat.gcd 2 (2 * q + 1) = 1; rw [Nat.gcd_rec]; simp [Nat.add_mod]
theorem odd_pow {A q : Nat} (h : A = 2 * q + 1) (z : Nat) : Nat.Coprime (2 ^ z) A := (odd_two h).pow_left z
/-- What is left of the greatest common divisor when both are made odd. -/
theorem gcd_halves {a b z1 z2 q1 q2 : Nat} (ha : a = 2 ^ z1 * (2 * q1 + 1)) (hb : b = 2 ^ z2 * (2 * q2 + 1)) :
    Nat.gcd a b = Nat.gcd (2 * q1 + 1) (2 * q2 + 1) * 2 ^ (min z1 z2) := by
  rw [ha, hb]
  rcases Nat.le_total z1 z2 with h | h
  · rw [Nat.min_eq_left h, show z2 = z1 + (z2 - z1) by omega, Nat.pow_add, Nat.mul_assoc, Nat.gcd_mul_left, Nat.Coprime.gcd_mul_left_cancel_right _ (odd_pow rfl _), Nat.mul_comm]
  · rw [Nat.min_eq_right h, show z1 = z2 + (z1 - z2) by omega, Nat.pow_add, Nat.mul_assoc, Nat.gcd_mul_left, Nat.Coprime.gcd_mul_left_cancel _ (odd_pow rfl _), Nat.mul_comm]
/-- A round. -/
theorem gcd_round {X Y z q : Nat} (hle : Y ≤ X) (hy : ∃ r, Y = 2 * r + 1) (h : X - Y = 2 ^ z * (2 * q + 1)) : Nat.gcd (2 * q + 1) Y = Nat.gcd X Y := by
  obtain ⟨r, hr⟩ := hy
  rw [← Nat.gcd_sub_self_left hle, h, Nat.Coprime.gcd_mul_left_cancel _ (odd_pow hr _)]
theorem half_back {D z q : Nat} (h : D = 2 ^ z * (2 * q + 1)) : D / 2 ^ z = 2 * q + 1 := by rw [h]; exact Nat.mul_div_cancel_left _ (Nat.pow_pos (by decide))

/-- The bytes of the low i limbs, and the first k of the next one. -/
def vPart (m n i k : Nat) : List Nat := (List.range (8 * m)).map fun p => if 8 * (m - i) ≤ p ∨ (8 * (m - 1 - i) ≤ p ∧ p < 8 * (m - 1 - i) + k) then n / 256 ^ (8 * m - 1 - p) % 256 else 0
theorem vPart_len (m n i k : Nat) : (vPart m n i k).length = 8 * m := by simp [vPart]
theorem vPart_at {m n i k p : Nat} (h : p < 8 * m) : (vPart m n i k)[p]? = some (if 8 * (m - i) ≤ p ∨ (8 * (m - 1 - i) ≤ p ∧ p < 8 * (m - 1 - i) + k) then n / 256 ^ (8 * m - 1 - p) % 256 else 0) := by
  unfold vPart; rw [List.getElem?_map, List.getElem?_range h]; rfl
theorem vPart_zero (m n : Nat) : vPart m n 0 0 = List.replicate (8 * m) 0 := by
  apply List.ext_getElem?
  intro p
  by_cases h : p < 8 * m
  · rw [vPart_at h, List.getElem?_replicate, if_pos h, if_neg (by omega)]
  · rw [List.getElem?_eq_none (by rw [vPart_len]; omega), List.getElem?_eq_none (by simp; omega)]
theorem vPart_next {m n i : Nat} (hi : i < m) : vPart m n i 8 = vPart m n (i + 1) 0 := by
  unfold vPart
  refine List.map_congr_left fun p hp => ?_
  rw [List.mem_range] at hp
  by_cases h : 8 * (m - (i + 1)) ≤ p
  · rw [if_pos (by omega), if_pos (by omega)]
  · rw [if_neg (by omega), if_neg (by omega)]
theorem vPart_step {m n i k d b : Nat} (hi : i < m) (hk : k < 8) (hd : d = m - 1 - i) (hb : b = n / 18446744073709551616 ^ i % 18446744073709551616 / 256 ^ (7 - k) % 256) :
    vPart m n i (k + 1) = (vPart m n i k).set (8 * d + k) b := by
  have hval : n / 256 ^ (8 * m - 1 - (8 * d + k)) % 256 = b := by
    rw [hb, show 8 * m - 1 - (8 * d + k) = 8 * i + (7 - k) by omega, Nat.pow_add, ← qw_256, ← Nat.div_div_eq_div_mul]
    generalize n / 18446744073709551616 ^ i = N
    have h1 : (18446744073709551616 : Nat) = 256 ^ (7 - k) * (256 * 256 ^ k) := by rw [← Nat.mul_assoc, Nat.mul_right_comm, ← Nat.pow_add, show 7 - k + k = 7 by omega]
    rw [h1, Nat.mod_mul_right_div_self, Nat.mod_mul_right_mod]
  apply List.ext_getElem?
  intro p
  rw [List.getElem?_set]
  by_cases hp : p < 8 * m
  · rw [vPart_at hp, vPart_at hp]
    by_cases h1 : 8 * d + k = p
    · subst h1; rw [if_pos rfl, if_pos (by omega), if_pos (by rw [vPart_len]; exact hp), hval]
    · rw [if_neg h1]
      by_cases h2 : 8 * (m - i) ≤ p ∨ (8 * (m - 1 - i) ≤ p ∧ p < 8 * (m - 1 - i) + k)
      · rw [if_pos h2, if_pos (by omega)]
      · rw [if_neg h2, if_neg (by omega)]
  · rw [List.getElem?_eq_none (by rw [vPart_len]; omega), if_neg (by omega), List.getElem?_eq_none (by rw [vPart_len]; omega)]
theorem vPart_all (m n : Nat) : vPart m n m 0 = (bePad (8 * m) n).map fun b : UInt8 => b.toNat := by
  unfold vPart bePad
  rw [List.map_map]
  refine List.map_congr_left fun p hp => ?_
  rw [List.mem_range] at hp
  rw [if_pos (by omega)]
  simp only [Function.comp, u8_nat]
theorem made_bC (m : Nat) : madeCells #[.int .u8 0] m = bC (List.replicate m 0) := by
  apply Array.ext
  · simp [size_madeCells, bC]
  · intro i h1 h2
    simp [madeCells, Nat.mod_one, bC]
theorem digs_shift (n k : Nat) (h : 0 < n) : digs (n * 256 ^ k) = digs n ++ List.replicate k 0 := by
  induction k with
  | zero => simp
  | succ k ih =>
    have hp : 0 < n * 256 ^ (k + 1) := Nat.mul_pos h (Nat.pow_pos (by decide))
    rw [digs_pos hp, Nat.pow_succ, ← Nat.mul_assoc, Nat.mul_div_cancel _ (by decide), ih, Nat.mul_mod_left, List.replicate_succ', List.append_assoc]
    rfl
theorem digs_small {n : Nat} (h : 0 < n) (hl : n < 256) : digs n = [UInt8.ofNat n] := by
  rw [digs_pos h, Nat.div_eq_of_lt hl, digs_zero, Nat.mod_eq_of_lt hl]; rfl
theorem pow_digs (z : Nat) : digs (2 ^ z) = UInt8.ofNat (2 ^ (z % 8)) :: List.replicate (z / 8) 0 := by
  have h1 : 2 ^ z = 2 ^ (z % 8) * 256 ^ (z / 8) := by
    rw [show (256 : Nat) = 2 ^ 8 from rfl, ← Nat.pow_mul, ← Nat.pow_add, show z % 8 + 8 * (z / 8) = z by omega]
  have h2 : 2 ^ (z % 8) ≤ 2 ^ 7 := Nat.pow_le_pow_right (by decide) (by omega)
  rw [h1, digs_shift _ _ (Nat.pow_pos (by decide)), digs_small (Nat.pow_pos (by decide)) (by omega)]
  rfl
/-- A slice holds a number. -/
structure SN (w : World) (g o m c n : Nat) : Prop where
  ex : ∃ L, Blk w g 130 (qC L) ∧ QAt L o m n
  ql : QL n m
  mc : m ≤ c
  cl : c ≤ 20000
theorem SN.grown {w w' : World} {g o m c n h : Nat} (s : SN w g o m c n) (hg : GrB w w' (some h)) (hne : g ≠ h) : SN w' g o m c n := by
  obtain ⟨L, h4, h5⟩ := s.ex
  exact ⟨⟨L, h4.grown hg (by simpa using hne), h5⟩, s.ql, s.mc, s.cl⟩
theorem SN.drewN {w : World} {g o m c n : Nat} (s : SN w g o m c n) (k : Nat) : SN (w.drewN k) g o m c n := by
  obtain ⟨L, h4, h5⟩ := s.ex
  exact ⟨⟨L, h4, h5⟩, s.ql, s.mc, s.cl⟩
/-- What stays true of both numbers. -/
structure Odds (X Y G : Nat) : Prop where
  x : ∃ r, X = 2 * r + 1
  y : ∃ r, Y = 2 * r + 1
  g : Nat.gcd X Y = G
theorem Odds.swap {X Y G : Nat} (h : Odds X Y G) : Odds Y X G := ⟨h.y, h.x, by rw [Nat.gcd_comm]; exact h.g⟩
theorem Odds.next {X Y G z q : Nat} (h : Odds X Y G) (hle : Y ≤ X) (hd : X - Y = 2 ^ z * (2 * q + 1)) : Odds (2 * q + 1) Y G ∧ 2 * q + 1 + Y < X + Y := by
  refine ⟨⟨⟨q, rfl⟩, h.y, by rw [gcd_round hle h.y hd]; exact h.g⟩, ?_⟩
  obtain ⟨r, hr⟩ := h.y
  have h1 : 2 * q + 1 ≤ 2 ^ z * (2 * q + 1) := Nat.le_mul_of_pos_left _ (Nat.pow_pos (by decide))
  omega
theorem Odds.same {X Y G : Nat} (h : Odds X Y G) (hle : Y ≤ X) (hd : X - Y = 0) : Y = G := by
  have : X = Y := by omega
  subst this
  rw [← h.g, Nat.gcd_self]

set_option maxHeartbeats 8000000 in
theorem halves_any (a b g : Nat) (w : World) (ha : (nS a).size ≤ 50000) (hb : (nS b).size ≤ 50000) (ha0 : 0 < a) (hb0 : 0 < b) (hg : Hid (Nat.gcd a b = g)) (hT : Tb w) :
    Calls Tryz.prog 88 #[.string (nS a), .string (nS b)] w fun e w' => e = .returned (.string (nS g)) ∧ Below w.heap.size w w' := by
  have HA := Lib.hid ha
  have HB := Lib.hid hb
  have T0 := Lib.hid hT
  clear hT
  go_enter Tryz.func88, Tryz.ntmps88
  go_wp2_with fail
  refine (limbs_any a _ (by omega)).mono ?_
  rintro e w1 ⟨gx, L1, rfl, hgx, hX, hQ, hb1⟩
  have X1 := Lib.hid hX
  have Q1 := Lib.hid hQ
  have B1 := Lib.hid hb1
  clear hX hQ hb1
  go_wp2_with fail
  refine (limbs_any b _ (by omega)).mono ?_
  rintro e w2 ⟨gy, L2, rfl, hgy, hY, hQ, hb2⟩
  have X2 := Lib.hid (X1.out.below hb2 X1.out.lt)
  have Y2 := Lib.hid hY
  have R2 := Lib.hid hQ
  have B2 := Lib.hid (B1.out.trans (hb2.mono B1.out.size))
  have hxy : gx < gy := Nat.lt_of_lt_of_le X1.out.lt hgy
  have T2 := Lib.hid (T0.out.below B2.out)
  have hgy2 : w.heap.size ≤ gy := by omega
  clear hY hQ hb2 X1 B1 hgy
  obtain ⟨ma, hma⟩ : ∃ m, m = ((nS a).size + 7) / 8 := ⟨_, rfl⟩
  obtain ⟨mb, hmb⟩ : ∃ m, m = ((nS b).size + 7) / 8 := ⟨_, rfl⟩
  rw [← hma, ← hmb]
  rw [← hma] at Q1
  rw [← hmb] at R2
  have ma1 : ma ≤ 6251 := by omega
  have mb1 : mb ≤ 6251 := by omega
  clear hma hmb ha hb
  go_wp2_with fail
  refine (evens_any gx 0 ma _ a L1 _ (by omega) X2.out Q1.out ha0 T2.out).mono ?_
  rintro e w' ⟨z1, q1, rfl, hz1, hq1, rfl⟩
  have HQ1 := Lib.hid hq1
  clear hq1
  go_wp2_with fail
  refine (evens_any gy 0 mb _ b L2 _ (by omega) Y2.out R2.out hb0 T2.out).mono ?_
  rintro e w' ⟨z2, q2, rfl, hz2, hq2, rfl⟩
  have HQ2 := Lib.hid hq2
  clear hq2
  go_wp2_with fail
  refine (right_any gx 0 ma _ a z1 L1 _ (by omega) (by omega) (by omega) X2.out Q1.out hz1).mono ?_
  rintro e w3 ⟨ox, mx, cx, Lx, rfl, hm1, hm2, hm3, hX3, hQ3, hL3, hg3⟩
  rw [half_back HQ1.out] at hQ3 hL3
  have S3 : Hid (SN w3 gx ox mx cx (2 * q1 + 1)) := ⟨⟨Lx, hX3, hQ3⟩, hL3, hm2, by omega⟩
  have mx1 : mx ≤ 6251 := by omega
  have Y3 := Lib.hid (Y2.out.grown hg3 (by simp; omega))
  have B3 := Lib.hid (B2.out.grown hg3 B2.out.size (fun k hk => by cases hk; exact hgx))
  clear hm1 hm2 hm3 hX3 hQ3 hL3 hg3 X2 Y2 B2 Q1
  go_wp2_with fail
  refine (right_any gy 0 mb _ b z2 L2 _ (by omega) (by omega) (by omega) Y3.out R2.out hz2).mono ?_
  rintro e w4 ⟨oy, my, cy, Ly, rfl, hm1, hm2, hm3, hX3, hQ3, hL3, hg3⟩
  rw [half_back HQ2.out] at hQ3 hL3
  have SX : Hid (SN w4 gx ox mx cx (2 * q1 + 1)) := S3.out.grown hg3 (by omega)
  have SY : Hid (SN w4 gy oy my cy (2 * q2 + 1)) := ⟨⟨Ly, hX3, hQ3⟩, hL3, hm2, by omega⟩
  have my1 : my ≤ 6251 := by omega
  have B4 := Lib.hid (B3.out.grown hg3 B3.out.size (fun k hk => by cases hk; exact hgy2))
  clear hm1 hm2 hm3 hX3 hQ3 hL3 hg3 Y3 B3 R2 S3
  have HG : Hid (g = Nat.gcd (2 * q1 + 1) (2 * q2 + 1) * 2 ^ (min z1 z2)) := by unfold Hid; rw [← hg.out]; exact gcd_halves HQ1.out HQ2.out
  obtain ⟨G, hG⟩ : ∃ G, G = Nat.gcd (2 * q1 + 1) (2 * q2 + 1) := ⟨_, rfl⟩
  rw [← hG] at HG
  have OO : Hid (Odds (2 * q1 + 1) (2 * q2 + 1) G) := ⟨⟨q1, rfl⟩, ⟨q2, rfl⟩, hG.symm⟩
  obtain ⟨A, hA⟩ : ∃ A, A = 2 * q1 + 1 := ⟨_, rfl⟩
  obtain ⟨B, hB⟩ : ∃ B, B = 2 * q2 + 1 := ⟨_, rfl⟩
  rw [← hA] at SX OO
  rw [← hB] at SY OO
  clear hG hA hB HQ1 HQ2 T2
  go_upto_block 0 with fail
  go_cut [5, 6] (fun s5 s6 wx => ∃ g1 o1 m1 c1 X g2 o2 m2 c2 Y : Nat, s5 = .slice (some ⟨g1, o1, none⟩) m1 c1 ∧ s6 = .slice (some ⟨g2, o2, none⟩) m2 c2 ∧ Hid (SN wx g2 o2 m2 c2 Y) ∧ m2 ≤ 6251 ∧ w.heap.size ≤ g2 ∧ Hid (Below w.heap.size w wx) ∧ Hid ((m1 = 0 ∧ Y = G) ∨ (m1 = 1 ∧ m2 = 1 ∧ Nat.gcd X Y = G ∧ SN wx g1 o1 m1 c1 X ∧ g1 ≠ g2)))
  case first =>
    go_wp2_with fail
    go_loopg [5, 6] (A + B) (fun k x y wr => ∃ g1 o1 m1 c1 X g2 o2 m2 c2 Y : Nat, k = X + Y ∧ x = .slice (some ⟨g1, o1, none⟩) m1 c1 ∧ y = .slice (some ⟨g2, o2, none⟩) m2 c2 ∧ Hid (SN wr g1 o1 m1 c1 X) ∧ Hid (SN wr g2 o2 m2 c2 Y) ∧ Hid (Odds X Y G) ∧ m1 ≤ 6251 ∧ m2 ≤ 6251 ∧ w.heap.size ≤ g1 ∧ w.heap.size ≤ g2 ∧ g1 ≠ g2 ∧ Hid (Below w.heap.size w wr))
    case atStart => exact ⟨gx, ox, mx, cx, A, gy, oy, my, cy, B, rfl, rfl, rfl, SX, SY, OO, mx1, my1, hgx, hgy2, by omega, B4⟩
    case round =>
      clear SX SY OO B4 mx1 my1
      obtain ⟨g1, o1, m1, c1, X, g2, o2, m2, c2, Y, rfl, rfl, rfl, S1, S2, OO, l1, l2, b1, b2, hne, BB⟩ := hrel
      have p1 : 0 < m1 := by
        obtain ⟨r, hr⟩ := OO.out.x
        rcases Nat.eq_zero_or_pos m1 with h | h
        · subst h; have := S1.out.ql.zero; omega
        · exact h
      have p2 : 0 < m2 := by
        obtain ⟨r, hr⟩ := OO.out.y
        rcases Nat.eq_zero_or_pos m2 with h | h
        · subst h; have := S2.out.ql.zero; omega
        · exact h
      by_cases h1 : 1 < m1
      · obtain ⟨LX, BX0, QX0⟩ := S1.out.ex
        obtain ⟨LY, BY0, QY0⟩ := S2.out.ex
        have BX := Lib.hid BX0
        have BY := Lib.hid BY0
        have QX := Lib.hid QX0
        have QY := Lib.hid QY0
        clear BX0 BY0 QX0 QY0
        go_wp2_with fail
        refine (natBelow_any g1 o1 m1 c1 X g2 o2 m2 c2 Y LX LY _ (by omega) (by omega) BX.out QX.out BY.out QY.out S1.out.ql S2.out.ql).mono ?_
        rintro e w5 ⟨rfl, N, rfl⟩
        by_cases hlt : X < Y
        · have hd : decide (X < Y) = true := decide_eq_true hlt
          have OE := Lib.hid (OO.out.swap)
          have hle : X ≤ Y := by omega
          have cl := S2.out.cl
          have mc := S2.out.mc
          have BB2 : Hid (Below w.heap.size w (wr.drewN N)) := below_drewN BB.out N
          have BY : Hid (Blk (wr.drewN N) g2 130 (qC LY)) := BY.out
          have BX : Hid (Blk (wr.drewN N) g1 130 (qC LX)) := BX.out
          have SS2 : Hid (SN (wr.drewN N) g1 o1 m1 c1 X) := S1.out.drewN N
          go_wp2_with fail
          refine (minus_any g2 o2 m2 c2 Y g1 o1 m1 c1 X LY LX _ (by omega) (by omega) mc BY.out QY.out BX.out QX.out (by omega) hle).mono ?_
          rintro e w6 ⟨k, L6, rfl, hk, hX6, hQ6, hL6, hg6⟩
          have X6 := Lib.hid hX6
          have Q6 := Lib.hid hQ6
          have L6' := Lib.hid hL6
          have S6 := Lib.hid (SS2.out.grown hg6 (by omega))
          have B6 := Lib.hid (BB2.out.grown hg6 BB2.out.size (fun k hk => by cases hk; exact b2))
          clear hX6 hQ6 hL6 hg6 SS2 BB2 BY BX QY QX
          rcases Nat.eq_zero_or_pos k with hk0 | hk0
          · subst hk0
            have hD := L6'.out.zero
            have HE := Lib.hid (OE.out.same hle hD)
            clear hD
            go_wp2_with fail
            go_meet
            case rel => exact ⟨g2, o2, 0, c2, 0, g1, o1, m1, c1, X, rfl, rfl, S6, l1, b1, B6, .inl ⟨rfl, HE.out⟩⟩
          · have hkz : ((k : Int) == 0) = false := by rw [beq_eq_false_iff_ne]; omega
            have T6 := Lib.hid (T0.out.below B6.out)
            go_wp2_with fail
            refine (evens_any g2 o2 k c2 (Y - X) L6 _ (by omega) X6.out Q6.out (L6'.out.pos hk0) T6.out).mono ?_
            rintro e w' ⟨z, q, rfl, hz, hq, rfl⟩
            have HQ := Lib.hid hq
            clear hq
            go_wp2_with fail
            refine (right_any g2 o2 k c2 (Y - X) z L6 _ (by omega) (by omega) (by omega) X6.out Q6.out hz).mono ?_
            rintro e w7 ⟨o7, k7, c7, L7, rfl, hm1, hm2, hm3, hX7, hQ7, hL7, hg7⟩
            rw [half_back HQ.out] at hQ7 hL7
            have S7 : Hid (SN w7 g2 o7 k7 c7 (2 * q + 1)) := ⟨⟨L7, hX7, hQ7⟩, hL7, hm2, by omega⟩
            have S8 := Lib.hid (S6.out.grown hg7 (by omega))
            have B7 := Lib.hid (B6.out.grown hg7 B6.out.size (fun k hk => by cases hk; exact b2))
            have hk7 : k7 ≤ 6251 := by omega
            obtain ⟨ON, hms⟩ := OE.out.next hle HQ.out
            have ON := Lib.hid ON
            clear hX7 hQ7 hL7 hg7 S6 B6 X6 Q6 L6' T6
            go_wp2_with fail
            go_roundg (2 * q + 1 + X)
            case measure => omega
            case rel => exact ⟨g2, o7, k7, c7, 2 * q + 1, g1, o1, m1, c1, X, rfl, rfl, rfl, S7, S8, ON, hk7, l1, b2, b1, by omega, B7⟩
        · have hd : decide (X < Y) = false := decide_eq_false hlt
          have OE := Lib.hid (OO.out)
          have hle : Y ≤ X := by omega
          have cl := S1.out.cl
          have mc := S1.out.mc
          have BB2 : Hid (Below w.heap.size w (wr.drewN N)) := below_drewN BB.out N
          have BX : Hid (Blk (wr.drewN N) g1 130 (qC LX)) := BX.out
          have BY : Hid (Blk (wr.drewN N) g2 130 (qC LY)) := BY.out
          have SS2 : Hid (SN (wr.drewN N) g2 o2 m2 c2 Y) := S2.out.drewN N
          go_wp2_with fail
          refine (minus_any g1 o1 m1 c1 X g2 o2 m2 c2 Y LX LY _ (by omega) (by omega) mc BX.out QX.out BY.out QY.out (by omega) hle).mono ?_
          rintro e w6 ⟨k, L6, rfl, hk, hX6, hQ6, hL6, hg6⟩
          have X6 := Lib.hid hX6
          have Q6 := Lib.hid hQ6
          have L6' := Lib.hid hL6
          have S6 := Lib.hid (SS2.out.grown hg6 (by omega))
          have B6 := Lib.hid (BB2.out.grown hg6 BB2.out.size (fun k hk => by cases hk; exact b1))
          clear hX6 hQ6 hL6 hg6 SS2 BB2 BX BY QX QY
          rcases Nat.eq_zero_or_pos k with hk0 | hk0
          · subst hk0
            have hD := L6'.out.zero
            have HE := Lib.hid (OE.out.same hle hD)
            clear hD
            go_wp2_with fail
            go_meet
            case rel => exact ⟨g1, o1, 0, c1, 0, g2, o2, m2, c2, Y, rfl, rfl, S6, l2, b2, B6, .inl ⟨rfl, HE.out⟩⟩
          · have hkz : ((k : Int) == 0) = false := by rw [beq_eq_false_iff_ne]; omega
            have T6 := Lib.hid (T0.out.below B6.out)
            go_wp2_with fail
            refine (evens_any g1 o1 k c1 (X - Y) L6 _ (by omega) X6.out Q6.out (L6'.out.pos hk0) T6.out).mono ?_
            rintro e w' ⟨z, q, rfl, hz, hq, rfl⟩
            have HQ := Lib.hid hq
            clear hq
            go_wp2_with fail
            refine (right_any g1 o1 k c1 (X - Y) z L6 _ (by omega) (by omega) (by omega) X6.out Q6.out hz).mono ?_
            rintro e w7 ⟨o7, k7, c7, L7, rfl, hm1, hm2, hm3, hX7, hQ7, hL7, hg7⟩
            rw [half_back HQ.out] at hQ7 hL7
            have S7 : Hid (SN w7 g1 o7 k7 c7 (2 * q + 1)) := ⟨⟨L7, hX7, hQ7⟩, hL7, hm2, by omega⟩
            have S8 := Lib.hid (S6.out.grown hg7 (by omega))
            have B7 := Lib.hid (B6.out.grown hg7 B6.out.size (fun k hk => by cases hk; exact b1))
            have hk7 : k7 ≤ 6251 := by omega
            obtain ⟨ON, hms⟩ := OE.out.next hle HQ.out
            have ON := Lib.hid ON
            clear hX7 hQ7 hL7 hg7 S6 B6 X6 Q6 L6' T6
            go_wp2_with fail
            go_roundg (2 * q + 1 + Y)
            case measure => omega
            case rel => exact ⟨g1, o7, k7, c7, 2 * q + 1, g2, o2, m2, c2, Y, rfl, rfl, rfl, S7, S8, ON, hk7, l2, b1, b2, by omega, B7⟩
      · by_cases h2 : 1 < m2
        · obtain ⟨LX, BX0, QX0⟩ := S1.out.ex
          obtain ⟨LY, BY0, QY0⟩ := S2.out.ex
          have BX := Lib.hid BX0
          have BY := Lib.hid BY0
          have QX := Lib.hid QX0
          have QY := Lib.hid QY0
          clear BX0 BY0 QX0 QY0
          go_wp2_with fail
          refine (natBelow_any g1 o1 m1 c1 X g2 o2 m2 c2 Y LX LY _ (by omega) (by omega) BX.out QX.out BY.out QY.out S1.out.ql S2.out.ql).mono ?_
          rintro e w5 ⟨rfl, N, rfl⟩
          by_cases hlt : X < Y
          · have hd : decide (X < Y) = true := decide_eq_true hlt
            have OE := Lib.hid (OO.out.swap)
            have hle : X ≤ Y := by omega
            have cl := S2.out.cl
            have mc := S2.out.mc
            have BB2 : Hid (Below w.heap.size w (wr.drewN N)) := below_drewN BB.out N
            have BY : Hid (Blk (wr.drewN N) g2 130 (qC LY)) := BY.out
            have BX : Hid (Blk (wr.drewN N) g1 130 (qC LX)) := BX.out
            have SS2 : Hid (SN (wr.drewN N) g1 o1 m1 c1 X) := S1.out.drewN N
            go_wp2_with fail
            refine (minus_any g2 o2 m2 c2 Y g1 o1 m1 c1 X LY LX _ (by omega) (by omega) mc BY.out QY.out BX.out QX.out (by omega) hle).mono ?_
            rintro e w6 ⟨k, L6, rfl, hk, hX6, hQ6, hL6, hg6⟩
            have X6 := Lib.hid hX6
            have Q6 := Lib.hid hQ6
            have L6' := Lib.hid hL6
            have S6 := Lib.hid (SS2.out.grown hg6 (by omega))
            have B6 := Lib.hid (BB2.out.grown hg6 BB2.out.size (fun k hk => by cases hk; exact b2))
            clear hX6 hQ6 hL6 hg6 SS2 BB2 BY BX QY QX
            rcases Nat.eq_zero_or_pos k with hk0 | hk0
            · subst hk0
              have hD := L6'.out.zero
              have HE := Lib.hid (OE.out.same hle hD)
              clear hD
              go_wp2_with fail
              go_meet
              case rel => exact ⟨g2, o2, 0, c2, 0, g1, o1, m1, c1, X, rfl, rfl, S6, l1, b1, B6, .inl ⟨rfl, HE.out⟩⟩
            · have hkz : ((k : Int) == 0) = false := by rw [beq_eq_false_iff_ne]; omega
              have T6 := Lib.hid (T0.out.below B6.out)
              go_wp2_with fail
              refine (evens_any g2 o2 k c2 (Y - X) L6 _ (by omega) X6.out Q6.out (L6'.out.pos hk0) T6.out).mono ?_
              rintro e w' ⟨z, q, rfl, hz, hq, rfl⟩
              have HQ := Lib.hid hq
              clear hq
              go_wp2_with fail
              refine (right_any g2 o2 k c2 (Y - X) z L6 _ (by omega) (by omega) (by omega) X6.out Q6.out hz).mono ?_
              rintro e w7 ⟨o7, k7, c7, L7, rfl, hm1, hm2, hm3, hX7, hQ7, hL7, hg7⟩
              rw [half_back HQ.out] at hQ7 hL7
              have S7 : Hid (SN w7 g2 o7 k7 c7 (2 * q + 1)) := ⟨⟨L7, hX7, hQ7⟩, hL7, hm2, by omega⟩
              have S8 := Lib.hid (S6.out.grown hg7 (by omega))
              have B7 := Lib.hid (B6.out.grown hg7 B6.out.size (fun k hk => by cases hk; exact b2))
              have hk7 : k7 ≤ 6251 := by omega
              obtain ⟨ON, hms⟩ := OE.out.next hle HQ.out
              have ON := Lib.hid ON
              clear hX7 hQ7 hL7 hg7 S6 B6 X6 Q6 L6' T6
              go_wp2_with fail
              go_roundg (2 * q + 1 + X)
              case measure => omega
              case rel => exact ⟨g2, o7, k7, c7, 2 * q + 1, g1, o1, m1, c1, X, rfl, rfl, rfl, S7, S8, ON, hk7, l1, b2, b1, by omega, B7⟩
          · have hd : decide (X < Y) = false := decide_eq_false hlt
            have OE := Lib.hid (OO.out)
            have hle : Y ≤ X := by omega
            have cl := S1.out.cl
            have mc := S1.out.mc
            have BB2 : Hid (Below w.heap.size w (wr.drewN N)) := below_drewN BB.out N
            have BX : Hid (Blk (wr.drewN N) g1 130 (qC LX)) := BX.out
            have BY : Hid (Blk (wr.drewN N) g2 130 (qC LY)) := BY.out
            have SS2 : Hid (SN (wr.drewN N) g2 o2 m2 c2 Y) := S2.out.drewN N
            go_wp2_with fail
            refine (minus_any g1 o1 m1 c1 X g2 o2 m2 c2 Y LX LY _ (by omega) (by omega) mc BX.out QX.out BY.out QY.out (by omega) hle).mono ?_
            rintro e w6 ⟨k, L6, rfl, hk, hX6, hQ6, hL6, hg6⟩
            have X6 := Lib.hid hX6
            have Q6 := Lib.hid hQ6
            have L6' := Lib.hid hL6
            have S6 := Lib.hid (SS2.out.grown hg6 (by omega))
            have B6 := Lib.hid (BB2.out.grown hg6 BB2.out.size (fun k hk => by cases hk; exact b1))
            clear hX6 hQ6 hL6 hg6 SS2 BB2 BX BY QX QY
            rcases Nat.eq_zero_or_pos k with hk0 | hk0
            · subst hk0
              have hD := L6'.out.zero
              have HE := Lib.hid (OE.out.same hle hD)
              clear hD
              go_wp2_with fail
              go_meet
              case rel => exact ⟨g1, o1, 0, c1, 0, g2, o2, m2, c2, Y, rfl, rfl, S6, l2, b2, B6, .inl ⟨rfl, HE.out⟩⟩
            · have hkz : ((k : Int) == 0) = false := by rw [beq_eq_false_iff_ne]; omega
              have T6 := Lib.hid (T0.out.below B6.out)
              go_wp2_with fail
              refine (evens_any g1 o1 k c1 (X - Y) L6 _ (by omega) X6.out Q6.out (L6'.out.pos hk0) T6.out).mono ?_
              rintro e w' ⟨z, q, rfl, hz, hq, rfl⟩
              have HQ := Lib.hid hq
              clear hq
              go_wp2_with fail
              refine (right_any g1 o1 k c1 (X - Y) z L6 _ (by omega) (by omega) (by omega) X6.out Q6.out hz).mono ?_
              rintro e w7 ⟨o7, k7, c7, L7, rfl, hm1, hm2, hm3, hX7, hQ7, hL7, hg7⟩
              rw [half_back HQ.out] at hQ7 hL7
              have S7 : Hid (SN w7 g1 o7 k7 c7 (2 * q + 1)) := ⟨⟨L7, hX7, hQ7⟩, hL7, hm2, by omega⟩
              have S8 := Lib.hid (S6.out.grown hg7 (by omega))
              have B7 := Lib.hid (B6.out.grown hg7 B6.out.size (fun k hk => by cases hk; exact b1))
              have hk7 : k7 ≤ 6251 := by omega
              obtain ⟨ON, hms⟩ := OE.out.next hle HQ.out
              have ON := Lib.hid ON
              clear hX7 hQ7 hL7 hg7 S6 B6 X6 Q6 L6' T6
              go_wp2_with fail
              go_roundg (2 * q + 1 + Y)
              case measure => omega
              case rel => exact ⟨g1, o7, k7, c7, 2 * q + 1, g2, o2, m2, c2, Y, rfl, rfl, rfl, S7, S8, ON, hk7, l2, b1, b2, by omega, B7⟩
        · have e1 : m1 = 1 := by omega
          have e2 : m2 = 1 := by omega
          subst e1
          subst e2
          go_wp2_with fail
          go_meet
          case rel => exact ⟨g1, o1, 1, c1, X, g2, o2, 1, c2, Y, rfl, rfl, S2, l2, b2, BB, .inr ⟨rfl, rfl, OO.out.g, S1.out, hne⟩⟩
  case rest =>
    obtain ⟨g1, o1, m1, c1, X, g2, o2, m2, c2, Y, rfl, rfl, S2, l2, b2, BB, DD⟩ := hcut
    clear SX SY OO B4
    rcases DD.out with ⟨h1, h2⟩ | ⟨h1, h2, h3, h4, h5⟩
    · subst h1
      subst h2
      clear DD
      obtain ⟨LY, BY0, QY0⟩ := S2.out.ex
      have BY := Lib.hid BY0
      have QY := Lib.hid QY0
      have cl := S2.out.cl
      have mc := S2.out.mc
      clear BY0 QY0 S2
      have hmk := run_make_row' (P := Tryz.prog) 149 5 (.int .u8 0) 1 Tryz.underlying149 info_u8 rfl .i64 .i64 (8 * m2) (by omega) (by omega)
      have hm8 : (((8 * m2 : Nat) : Int)) = 8 * (m2 : Int) := by omega
      rw [hm8] at hmk
      have V0 : Hid (Blk (wc.alloc (.cells (madeCells #[.int .u8 0] (8 * m2)) 5)) wc.heap.size 5 (bC (vPart m2 Y 0 0))) := by
        unfold Hid
        rw [vPart_zero, ← made_bC]
        exact Blk.new _ _ _
      have C0 := Lib.hid ((Below.refl wc.heap.size wc).alloc (Nat.le_refl _) (.cells (madeCells #[.int .u8 0] (8 * m2)) 5))
      clear hm8
      go_wp2_with fail
      clear hmk
      
      go_loopw [74] (fun i wr => ∃ j : Nat, i = .int .i64 j ∧ j ≤ m2 ∧ Hid (Blk wr wc.heap.size 5 (bC (vPart m2 Y j 0))) ∧ Hid (Below wc.heap.size wc wr)) (fun i _ => m2 - (intOf i).toNat)
      case atStart => exact ⟨0, rfl, by omega, V0, C0⟩
      case round =>
        clear V0 C0
        obtain ⟨i, rfl, hi, V, C⟩ := hrel
        by_cases hlt : i < m2
        · obtain ⟨x, hx⟩ : ∃ x, x = Y / 18446744073709551616 ^ i % 18446744073709551616 := ⟨_, rfl⟩
          have hxl : x < 18446744073709551616 := by rw [hx]; exact qig_lt _ _
          have cX : wr.cell? ⟨g2, o2 + i, none⟩ = some (.int .u64 x) := by rw [(BY.out.below C.out BY.out.lt).cell, hx]; exact qC_at (QY.out.at_ i hlt)
          obtain ⟨d, hd⟩ : ∃ d, d = m2 - 1 - i := ⟨_, rfl⟩
          have e1 : (m2 : Int) - 1 - i = (d : Int) := by omega
          have hdm : d < m2 := by omega
          have HX := Lib.hid hx
          have HD := Lib.hid hd
          clear hx hd
          go_wp2_with fail
          obtain ⟨wo, hwo⟩ : ∃ wo : World, wo = wr := ⟨_, rfl⟩
          subst hwo
          clear cX
          go_loopw [79] (fun k wr => ∃ j : Nat, k = .int .i64 j ∧ j ≤ 8 ∧ Hid (Blk wr wc.heap.size 5 (bC (vPart m2 Y i j))) ∧ Hid (Below wc.heap.size wc wr)) (fun k _ => 8 - (intOf k).toNat)
          case atStart => exact ⟨0, rfl, by omega, V, C⟩
          case round =>
            clear V C
            obtain ⟨j, rfl, hj, V, C⟩ := hrel
            by_cases hj8 : j < 8
            · have fV := V.out.frozen (8 * d + j)
              obtain ⟨u, cV⟩ : ∃ u, wr.cell? ⟨wc.heap.size, 8 * d + j, none⟩ = some u := ⟨_, by rw [V.out.cell]; exact Array.getElem?_eq_getElem (by simp [bC, vPart_len]; omega)⟩
              have e2 : (8 : Int) * d + j < 8 * m2 := by omega
              have e3 : 8 * d + j < 8 * m2 := by omega
              obtain ⟨b, hb⟩ : ∃ b, b = x / 256 ^ (7 - j) % 256 := ⟨_, rfl⟩
              have e4 : (x : Int) / 2 ^ (56 - 8 * j) % 256 = (b : Int) := by rw [be_shift x j hj8, hb]
              have V2 : Hid (Blk (wr.setCell ⟨wc.heap.size, 8 * d + j, none⟩ (.int .u8 (b : Int))) wc.heap.size 5 (bC (vPart m2 Y i (j + 1)))) := by
                unfold Hid
                rw [vPart_step (b := b) hlt hj8 HD.out (by rw [hb, HX.out]), ← bC_set]
                exact V.out.set_ (8 * d + j) _
              have C2 := Lib.hid (C.out.setCell (p := ⟨wc.heap.size, 8 * d + j, none⟩) (Nat.le_refl _) (.int .u8 (b : Int)))
              clear hb
              go_wp2_with fail
              go_roundw
              case rel => exact ⟨j + 1, by go_num, by omega, V2, C2⟩
              case measure => simp [intOf]; omega
            · have hj88 : j = 8 := by omega
              subst hj88
              have V2 : Hid (Blk wr wc.heap.size 5 (bC (vPart m2 Y (i + 1) 0))) := by unfold Hid; rw [← vPart_next hlt]; exact V.out
              go_wp2_with fail
              go_roundw
              case rel => exact ⟨i + 1, by go_num, by omega, V2, C⟩
              case measure => simp [intOf]; omega
        · have him : i = m2 := by omega
          subst him
          obtain ⟨zm, hzm⟩ : ∃ zm, zm = min z1 z2 := ⟨_, rfl⟩
          obtain ⟨zq, hzq⟩ : ∃ zq, zq = zm / 8 := ⟨_, rfl⟩
          obtain ⟨zr, hzr⟩ : ∃ zr, zr = zm % 8 := ⟨_, rfl⟩
          have hmn : min (z1 : Int) (z2 : Int) = (zm : Int) := by omega
          have f1 : (zm : Int) / 8 = (zq : Int) := by omega
          have f2 : (zm : Int) % 8 = (zr : Int) := by omega
          have hzr8 : zr < 8 := by omega
          have hzql : zq ≤ 51000 := by omega
          have PD : Hid (digs (2 ^ zm) = UInt8.ofNat (2 ^ zr) :: List.replicate zq 0) := by unfold Hid; rw [pow_digs, ← hzr, ← hzq]
          have p8 : 2 ^ zr ≤ 128 := show 2 ^ zr ≤ 2 ^ 7 from Nat.pow_le_pow_right (by decide) (by omega)
          obtain ⟨pv, hpv⟩ : ∃ pv, pv = 2 ^ zr := ⟨_, rfl⟩
          have g1' : IntKind.u8.wrap ((1 : Int) * 2 ^ zr) = (pv : Int) := by
            have : ((2 : Int) ^ zr) = ((2 ^ zr : Nat) : Int) := by rw [Int.natCast_pow]; rfl
            rw [this, ← hpv, Int.one_mul]
            have h2 : IntKind.u8.wrap (pv : Int) = (pv : Int) % 256 := by simp [IntKind.wrap, IntKind.bits, IntKind.signed]
            rw [h2]; omega
          have g2' : (2 : Int) ^ zr % 256 = (pv : Int) := by
            have : ((2 : Int) ^ zr) = ((2 ^ zr : Nat) : Int) := by rw [Int.natCast_pow]; rfl
            rw [this, ← hpv]; omega
          rw [← hpv] at PD p8
          have hmk2 := run_make_row' (P := Tryz.prog) 149 5 (.int .u8 0) 1 Tryz.underlying149 info_u8 rfl .i64 .i64 (zq + 1) (by omega) (by omega)
          have hm9 : (((zq + 1 : Nat) : Int)) = (zq : Int) + 1 := by omega
          rw [hm9] at hmk2
          have GZ : Hid (g = Y * 2 ^ zm) := by unfold Hid; rw [hzm]; exact HG.out
          have hmz : (madeCells #[Value.int .u8 0] (zq + 1))[0]? = some (.int .u8 0) := by rw [made_bC, List.replicate_succ]; rfl
          clear hzm hzq hzr hpv hm9
          have P1 : Hid (Blk (wr.alloc (.cells ((madeCells #[.int .u8 0] (zq + 1)).setIfInBounds 0 (.int .u8 (pv : Int))) 5)) wr.heap.size 5 (bC (pv :: List.replicate zq 0))) := by
            have e : (madeCells #[.int .u8 0] (zq + 1)).setIfInBounds 0 (.int .u8 (pv : Int)) = bC (pv :: List.replicate zq 0) := by rw [made_bC, bC_set, List.replicate_succ]; rfl
            unfold Hid
            rw [e]
            exact Blk.new _ _ _
          have VV1 := Lib.hid (V.out.alloc (.cells ((madeCells #[.int .u8 0] (zq + 1)).setIfInBounds 0 (.int .u8 (pv : Int))) 5))
          have BZ := Lib.hid (BB.out.trans (C.out.mono BB.out.size))
          have BW := Lib.hid (BZ.out.alloc BZ.out.size (.cells ((madeCells #[.int .u8 0] (zq + 1)).setIfInBounds 0 (.int .u8 (pv : Int))) 5))
          clear V C BZ
          go_upto_region 25 with fail
          generalize hW : wr.alloc (.cells ((madeCells #[.int .u8 0] (zq + 1)).setIfInBounds 0 (.int .u8 (pv : Int))) 5) = W8 at P1 VV1 BW ⊢
          clear hW hmz hmk2 hmn f1 f2 g1' g2'
          obtain ⟨y0, hy0⟩ := bePad_eq (8 * i) Y (by rw [← qw_256]; exact QY.out.lt)
          have hl1 : (bePad (8 * i) Y).length = 8 * i := by simp [bePad]
          have cv1 := run_convert_bytes_back (P := Tryz.prog) W8 149 9 5 ⟨wc.heap.size, 0, none⟩ (8 * i) (bePad (8 * i) Y) Tryz.underlying149 Tryz.underlying5 Tryz.underlying9 (fun j hj => by
            rw [Addr.add_lit, Nat.zero_add, VV1.out.cell, vPart_all]
            simp only [bC, List.map_map, List.getElem?_toArray, List.getElem?_map, List.getElem?_eq_getElem hj, Option.map_some]
            rfl)
          rw [hl1] at cv1
          have hl2 : (digs (2 ^ zm)).length = zq + 1 := by rw [PD.out]; simp
          have cv2 := run_convert_bytes_back (P := Tryz.prog) W8 149 9 5 ⟨wr.heap.size, 0, none⟩ (zq + 1) (digs (2 ^ zm)) Tryz.underlying149 Tryz.underlying5 Tryz.underlying9 (fun j hj => by
            rw [Addr.add_lit, Nat.zero_add, P1.out.cell]
            have e : bC (pv :: List.replicate zq 0) = ((digs (2 ^ zm)).map fun b => Value.int .u8 (b.toNat : Int)).toArray := by
              rw [PD.out]
              simp only [bC, List.map_cons, List.map_replicate]
              congr 2
              simp
              omega
            rw [e]
            simp only [List.getElem?_toArray, List.getElem?_map, List.getElem?_eq_getElem hj, Option.map_some])
          rw [hl2] at cv2
          have HZ1 : Hid ((⟨(bePad (8 * i) Y).toArray⟩ : ByteArray).data.toList = List.replicate y0 0 ++ digs Y) := hy0
          have hz1' : (⟨(bePad (8 * i) Y).toArray⟩ : ByteArray).size ≤ 1000000 := by rw [ba_size]; simp only [hl1]; omega
          have HZ2 : Hid ((⟨(digs (2 ^ zm)).toArray⟩ : ByteArray).data.toList = List.replicate 0 0 ++ digs (2 ^ zm)) := by simp [Hid]
          have hz2' : (⟨(digs (2 ^ zm)).toArray⟩ : ByteArray).size ≤ 1000000 := by rw [ba_size]; simp only [hl2]; omega
          have hga : g ≤ a := by rw [← hg.out]; exact Nat.le_of_dvd ha0 (Nat.gcd_dvd_left a b)
          have hg0 : 0 < g := by rw [← hg.out]; exact Nat.gcd_pos_of_pos_left b ha0
          have s1' : (nS Y).size ≤ 50000 := by
            refine Nat.le_trans (size_mono (Nat.le_trans ?_ hga)) HA.out
            rw [GZ.out]; exact Nat.le_mul_of_pos_right _ (Nat.pow_pos (by decide))
          have s2' : (nS (2 ^ zm)).size ≤ 50000 := by
            refine Nat.le_trans (size_mono (Nat.le_trans ?_ hga)) HA.out
            rw [GZ.out]
            refine Nat.le_mul_of_pos_left _ ?_
            rcases Nat.eq_zero_or_pos Y with h | h
            · have := GZ.out; rw [h, Nat.zero_mul] at this; omega
            · exact h
          clear hy0 hl1 hl2 PD hga
          go_wp2_with fail
          refine (Mul_pad _ _ y0 0 Y (2 ^ zm) _ HZ1 hz1' HZ2 hz2' s1' s2').mono ?_
          rintro e wf ⟨rfl, hbf⟩
          have BF := Lib.hid (BW.out.trans (hbf.mono BW.out.size))
          clear hbf cv1 cv2
          go_wp2_with fail
          go_ret
          exact ⟨by rw [GZ.out]; rfl, BF.out⟩
    · have hb1 : ((m1 : Int) == 1) = true := by rw [h1]; rfl
      have hb2 : ((m2 : Int) == 1) = true := by rw [h2]; rfl
      have p1 : 0 < m1 := by omega
      have p2 : 0 < m2 := by omega
      have H2 := Lib.hid h2
      clear DD
      obtain ⟨LX, BX0, QX0⟩ := h4.ex
      obtain ⟨LY, BY0, QY0⟩ := S2.out.ex
      have cl := S2.out.cl
      have mc := S2.out.mc
      have hXl : X < 18446744073709551616 := by have := QX0.lt; rw [h1] at this; simpa using this
      have hYl : Y < 18446744073709551616 := by have := QY0.lt; rw [h2] at this; simpa using this
      have hGl : G < 18446744073709551616 := by
        rw [← h3]
        rcases Nat.eq_zero_or_pos Y with h | h
        · subst h; rw [Nat.gcd_zero_right]; exact hXl
        · exact Nat.lt_of_le_of_lt (Nat.le_of_dvd h (Nat.gcd_dvd_right X Y)) hYl
      have hcX : wc.cell? ⟨g1, o1, none⟩ = some (.int .u64 X) := by
        rw [BX0.cell]
        have := QX0.at_ 0 (by omega)
        rw [Nat.add_zero, Nat.pow_zero, Nat.div_one, Nat.mod_eq_of_lt hXl] at this
        exact qC_at this
      have hcY : wc.cell? ⟨g2, o2, none⟩ = some (.int .u64 Y) := by
        rw [BY0.cell]
        have := QY0.at_ 0 (by omega)
        rw [Nat.add_zero, Nat.pow_zero, Nat.div_one, Nat.mod_eq_of_lt hYl] at this
        exact qC_at this
      have qlen := QY0.len
      have CX := Lib.hid hcX
      have CY := Lib.hid hcY
      have BY1 := Lib.hid BY0
      have HGG : Hid (Nat.gcd X Y = G) := h3
      clear BX0 BY0 QX0 QY0 h1 h2 h3 h4 h5 hcX hcY S2
      go_wp2_with fail
      have cx := fun s : Ext wc => s.cell CX.out
      have cy := fun s : Ext wc => s.cell CY.out
      refine wp_region_ext_tail 9 (by kernel_rfl) (by kernel_rfl) ?_
      simp only [List.take_succ_cons, List.take_zero, List.drop_succ_cons, List.drop_zero]
      repeat (go_big_quiet_step (fail))
      go_big_quiet_step ((go_at_call 87; refine Calls.ext ((common_any X Y G _ hXl hYl HGG).mono (fun e w' h => ⟨h.1, by obtain ⟨q, rfl⟩ := h.2; exact below_drewN (Below.refl _ _) q⟩))))
      repeat (go_big_quiet_step (fail))
      refine wpQuiet_nil ?_
      intro _ hw'
      obtain ⟨s, rfl⟩ := hw'
      clear cx cy
      have hb := s.h
      generalize s.to = w8 at hb ⊢
      have BY2 := Lib.hid (BY1.out.below hb BY1.out.lt)
      have BB2 := Lib.hid (BB.out.trans (hb.mono BB.out.size))
      have cY2 : w8.cell? ⟨g2, o2, none⟩ = some (.int .u64 Y) := keep_cell hb CY.out
      have fY2 := BY2.out.frozen o2
      clear hb s BY1 BB CX CY
      have BY : Hid (Blk (w8.setCell ⟨g2, o2, none⟩ (.int .u64 (G : Int))) g2 130 (qC (LY.set o2 G))) := by unfold Hid; rw [← qC_set]; exact BY2.out.set_ o2 _
      have QY : Hid (QAt (LY.set o2 G) o2 m2 G) := by
        unfold Hid
        rw [H2.out]
        refine ⟨fun j hj => ?_, by rw [List.length_set]; omega, by simpa using hGl⟩
        have : j = 0 := by omega
        subst this
        rw [Nat.add_zero, List.getElem?_set, if_pos rfl, if_pos (by omega), Nat.pow_zero, Nat.div_one, Nat.mod_eq_of_lt hGl]
      have BB := Lib.hid (BB2.out.setCell (p := ⟨g2, o2, none⟩) b2 (.int .u64 (G : Int)))
      go_upto_region 12 with fail
      clear cY2 fY2 BY2 BB2
      generalize hW9 : w8.setCell ⟨g2, o2, none⟩ (.int .u64 (G : Int)) = w9 at BY QY BB ⊢
      clear hW9
      clear hb1 hb2
      have hmk := run_make_row' (P := Tryz.prog) 149 5 (.int .u8 0) 1 Tryz.underlying149 info_u8 rfl .i64 .i64 (8 * m2) (by omega) (by omega)
      have hm8 : (((8 * m2 : Nat) : Int)) = 8 * (m2 : Int) := by omega
      rw [hm8] at hmk
      have V0 : Hid (Blk (w9.alloc (.cells (madeCells #[.int .u8 0] (8 * m2)) 5)) w9.heap.size 5 (bC (vPart m2 G 0 0))) := by
        unfold Hid
        rw [vPart_zero, ← made_bC]
        exact Blk.new _ _ _
      have C0 := Lib.hid ((Below.refl w9.heap.size w9).alloc (Nat.le_refl _) (.cells (madeCells #[.int .u8 0] (8 * m2)) 5))
      clear hm8
      go_wp2_with fail
      clear hmk
      
      go_loopw [74] (fun i wr => ∃ j : Nat, i = .int .i64 j ∧ j ≤ m2 ∧ Hid (Blk wr w9.heap.size 5 (bC (vPart m2 G j 0))) ∧ Hid (Below w9.heap.size w9 wr)) (fun i _ => m2 - (intOf i).toNat)
      case atStart => exact ⟨0, rfl, by omega, V0, C0⟩
      case round =>
        clear V0 C0
        obtain ⟨i, rfl, hi, V, C⟩ := hrel
        by_cases hlt : i < m2
        · obtain ⟨x, hx⟩ : ∃ x, x = G / 18446744073709551616 ^ i % 18446744073709551616 := ⟨_, rfl⟩
          have hxl : x < 18446744073709551616 := by rw [hx]; exact qig_lt _ _
          have cX : wr.cell? ⟨g2, o2 + i, none⟩ = some (.int .u64 x) := by rw [(BY.out.below C.out BY.out.lt).cell, hx]; exact qC_at (QY.out.at_ i hlt)
          obtain ⟨d, hd⟩ : ∃ d, d = m2 - 1 - i := ⟨_, rfl⟩
          have e1 : (m2 : Int) - 1 - i = (d : Int) := by omega
          have hdm : d < m2 := by omega
          have HX := Lib.hid hx
          have HD := Lib.hid hd
          clear hx hd
          go_wp2_with fail
          obtain ⟨wo, hwo⟩ : ∃ wo : World, wo = wr := ⟨_, rfl⟩
          subst hwo
          clear cX
          go_loopw [79] (fun k wr => ∃ j : Nat, k = .int .i64 j ∧ j ≤ 8 ∧ Hid (Blk wr w9.heap.size 5 (bC (vPart m2 G i j))) ∧ Hid (Below w9.heap.size w9 wr)) (fun k _ => 8 - (intOf k).toNat)
          case atStart => exact ⟨0, rfl, by omega, V, C⟩
          case round =>
            clear V C
            obtain ⟨j, rfl, hj, V, C⟩ := hrel
            by_cases hj8 : j < 8
            · have fV := V.out.frozen (8 * d + j)
              obtain ⟨u, cV⟩ : ∃ u, wr.cell? ⟨w9.heap.size, 8 * d + j, none⟩ = some u := ⟨_, by rw [V.out.cell]; exact Array.getElem?_eq_getElem (by simp [bC, vPart_len]; omega)⟩
              have e2 : (8 : Int) * d + j < 8 * m2 := by omega
              have e3 : 8 * d + j < 8 * m2 := by omega
              obtain ⟨b, hb⟩ : ∃ b, b = x / 256 ^ (7 - j) % 256 := ⟨_, rfl⟩
              have e4 : (x : Int) / 2 ^ (56 - 8 * j) % 256 = (b : Int) := by rw [be_shift x j hj8, hb]
              have V2 : Hid (Blk (wr.setCell ⟨w9.heap.size, 8 * d + j, none⟩ (.int .u8 (b : Int))) w9.heap.size 5 (bC (vPart m2 G i (j + 1)))) := by
                unfold Hid
                rw [vPart_step (b := b) hlt hj8 HD.out (by rw [hb, HX.out]), ← bC_set]
                exact V.out.set_ (8 * d + j) _
              have C2 := Lib.hid (C.out.setCell (p := ⟨w9.heap.size, 8 * d + j, none⟩) (Nat.le_refl _) (.int .u8 (b : Int)))
              clear hb
              go_wp2_with fail
              go_roundw
              case rel => exact ⟨j + 1, by go_num, by omega, V2, C2⟩
              case measure => simp [intOf]; omega
            · have hj88 : j = 8 := by omega
              subst hj88
              have V2 : Hid (Blk wr w9.heap.size 5 (bC (vPart m2 G (i + 1) 0))) := by unfold Hid; rw [← vPart_next hlt]; exact V.out
              go_wp2_with fail
              go_roundw
              case rel => exact ⟨i + 1, by go_num, by omega, V2, C⟩
              case measure => simp [intOf]; omega
        · have him : i = m2 := by omega
          subst him
          obtain ⟨zm, hzm⟩ : ∃ zm, zm = min z1 z2 := ⟨_, rfl⟩
          obtain ⟨zq, hzq⟩ : ∃ zq, zq = zm / 8 := ⟨_, rfl⟩
          obtain ⟨zr, hzr⟩ : ∃ zr, zr = zm % 8 := ⟨_, rfl⟩
          have hmn : min (z1 : Int) (z2 : Int) = (zm : Int) := by omega
          have f1 : (zm : Int) / 8 = (zq : Int) := by omega
          have f2 : (zm : Int) % 8 = (zr : Int) := by omega
          have hzr8 : zr < 8 := by omega
          have hzql : zq ≤ 51000 := by omega
          have PD : Hid (digs (2 ^ zm) = UInt8.ofNat (2 ^ zr) :: List.replicate zq 0) := by unfold Hid; rw [pow_digs, ← hzr, ← hzq]
          have p8 : 2 ^ zr ≤ 128 := show 2 ^ zr ≤ 2 ^ 7 from Nat.pow_le_pow_right (by decide) (by omega)
          obtain ⟨pv, hpv⟩ : ∃ pv, pv = 2 ^ zr := ⟨_, rfl⟩
          have g1' : IntKind.u8.wrap ((1 : Int) * 2 ^ zr) = (pv : Int) := by
            have : ((2 : Int) ^ zr) = ((2 ^ zr : Nat) : Int) := by rw [Int.natCast_pow]; rfl
            rw [this, ← hpv, Int.one_mul]
            have h2 : IntKind.u8.wrap (pv : Int) = (pv : Int) % 256 := by simp [IntKind.wrap, IntKind.bits, IntKind.signed]
            rw [h2]; omega
          have g2' : (2 : Int) ^ zr % 256 = (pv : Int) := by
            have : ((2 : Int) ^ zr) = ((2 ^ zr : Nat) : Int) := by rw [Int.natCast_pow]; rfl
            rw [this, ← hpv]; omega
          rw [← hpv] at PD p8
          have hmk2 := run_make_row' (P := Tryz.prog) 149 5 (.int .u8 0) 1 Tryz.underlying149 info_u8 rfl .i64 .i64 (zq + 1) (by omega) (by omega)
          have hm9 : (((zq + 1 : Nat) : Int)) = (zq : Int) + 1 := by omega
          rw [hm9] at hmk2
          have GZ : Hid (g = G * 2 ^ zm) := by unfold Hid; rw [hzm]; exact HG.out
          have hmz : (madeCells #[Value.int .u8 0] (zq + 1))[0]? = some (.int .u8 0) := by rw [made_bC, List.replicate_succ]; rfl
          clear hzm hzq hzr hpv hm9
          have P1 : Hid (Blk (wr.alloc (.cells ((madeCells #[.int .u8 0] (zq + 1)).setIfInBounds 0 (.int .u8 (pv : Int))) 5)) wr.heap.size 5 (bC (pv :: List.replicate zq 0))) := by
            have e : (madeCells #[.int .u8 0] (zq + 1)).setIfInBounds 0 (.int .u8 (pv : Int)) = bC (pv :: List.replicate zq 0) := by rw [made_bC, bC_set, List.replicate_succ]; rfl
            unfold Hid
            rw [e]
            exact Blk.new _ _ _
          have VV1 := Lib.hid (V.out.alloc (.cells ((madeCells #[.int .u8 0] (zq + 1)).setIfInBounds 0 (.int .u8 (pv : Int))) 5))
          have BZ := Lib.hid (BB.out.trans (C.out.mono BB.out.size))
          have BW := Lib.hid (BZ.out.alloc BZ.out.size (.cells ((madeCells #[.int .u8 0] (zq + 1)).setIfInBounds 0 (.int .u8 (pv : Int))) 5))
          clear V C BZ
          go_upto_region 25 with fail
          generalize hW : wr.alloc (.cells ((madeCells #[.int .u8 0] (zq + 1)).setIfInBounds 0 (.int .u8 (pv : Int))) 5) = W8 at P1 VV1 BW ⊢
          clear hW hmz hmk2 hmn f1 f2 g1' g2'
          obtain ⟨y0, hy0⟩ := bePad_eq (8 * i) G (by rw [← qw_256]; exact QY.out.lt)
          have hl1 : (bePad (8 * i) G).length = 8 * i := by simp [bePad]
          have cv1 := run_convert_bytes_back (P := Tryz.prog) W8 149 9 5 ⟨w9.heap.size, 0, none⟩ (8 * i) (bePad (8 * i) G) Tryz.underlying149 Tryz.underlying5 Tryz.underlying9 (fun j hj => by
            rw [Addr.add_lit, Nat.zero_add, VV1.out.cell, vPart_all]
            simp only [bC, List.map_map, List.getElem?_toArray, List.getElem?_map, List.getElem?_eq_getElem hj, Option.map_some]
            rfl)
          rw [hl1] at cv1
          have hl2 : (digs (2 ^ zm)).length = zq + 1 := by rw [PD.out]; simp
          have cv2 := run_convert_bytes_back (P := Tryz.prog) W8 149 9 5 ⟨wr.heap.size, 0, none⟩ (zq + 1) (digs (2 ^ zm)) Tryz.underlying149 Tryz.underlying5 Tryz.underlying9 (fun j hj => by
            rw [Addr.add_lit, Nat.zero_add, P1.out.cell]
            have e : bC (pv :: List.replicate zq 0) = ((digs (2 ^ zm)).map fun b => Value.int .u8 (b.toNat : Int)).toArray := by
              rw [PD.out]
              simp only [bC, List.map_cons, List.map_replicate]
              congr 2
              simp
              omega
            rw [e]
            simp only [List.getElem?_toArray, List.getElem?_map, List.getElem?_eq_getElem hj, Option.map_some])
          rw [hl2] at cv2
          have HZ1 : Hid ((⟨(bePad (8 * i) G).toArray⟩ : ByteArray).data.toList = List.replicate y0 0 ++ digs G) := hy0
          have hz1' : (⟨(bePad (8 * i) G).toArray⟩ : ByteArray).size ≤ 1000000 := by rw [ba_size]; simp only [hl1]; omega
          have HZ2 : Hid ((⟨(digs (2 ^ zm)).toArray⟩ : ByteArray).data.toList = List.replicate 0 0 ++ digs (2 ^ zm)) := by simp [Hid]
          have hz2' : (⟨(digs (2 ^ zm)).toArray⟩ : ByteArray).size ≤ 1000000 := by rw [ba_size]; simp only [hl2]; omega
          have hga : g ≤ a := by rw [← hg.out]; exact Nat.le_of_dvd ha0 (Nat.gcd_dvd_left a b)
          have hg0 : 0 < g := by rw [← hg.out]; exact Nat.gcd_pos_of_pos_left b ha0
          have s1' : (nS G).size ≤ 50000 := by
            refine Nat.le_trans (size_mono (Nat.le_trans ?_ hga)) HA.out
            rw [GZ.out]; exact Nat.le_mul_of_pos_right _ (Nat.pow_pos (by decide))
          have s2' : (nS (2 ^ zm)).size ≤ 50000 := by
            refine Nat.le_trans (size_mono (Nat.le_trans ?_ hga)) HA.out
            rw [GZ.out]
            refine Nat.le_mul_of_pos_left _ ?_
            rcases Nat.eq_zero_or_pos G with h | h
            · have := GZ.out; rw [h, Nat.zero_mul] at this; omega
            · exact h
          clear hy0 hl1 hl2 PD hga
          go_wp2_with fail
          refine (Mul_pad _ _ y0 0 G (2 ^ zm) _ HZ1 hz1' HZ2 hz2' s1' s2').mono ?_
          rintro e wf ⟨rfl, hbf⟩
          have BF := Lib.hid (BW.out.trans (hbf.mono BW.out.size))
          clear hbf cv1 cv2
          go_wp2_with fail
          go_ret
          exact ⟨by rw [GZ.out]; rfl, BF.out⟩
end Go.Proofs.YtmfejdikfpckdaaGreatDoor

namespace Go.Proofs.YtmfejdikfpckdaaGreatDoor
open Go.RowKit
set_option linter.unusedVariables false
set_option maxRecDepth 100000

set_option maxHeartbeats 4000000 in
theorem GcdG (a b g : Nat) (w : World) (ha : (nS a).size ≤ 50000) (hb : (nS b).size ≤ 50000) (hg : Hid (Nat.gcd a b = g)) (hT : Tb w) :
    Calls Tryz.prog 70 #[.string (nS a), .string (nS b)] w fun e w' => e = .returned (.string (nS g)) ∧ Below w.heap.size w w' := by
  have HA : Hid ((nS a).size ≤ 50000) := ha
  have HB : Hid ((nS b).size ≤ 50000) := hb
  have T0 := Lib.hid hT
  have B0 := Lib.hid (Below.refl w.heap.size w)
  clear hT
  go_enter Tryz.func70, Tryz.ntmps70
  go_wp2_with fail
  refine (trim_nS a _ (by omega)).mono ?_
  rintro e w' ⟨rfl, rfl⟩
  go_wp2_with fail
  refine (trim_nS b _ (by omega)).mono ?_
  rintro e w' ⟨rfl, rfl⟩
  clear ha hb
  go_wp2_with fail
  go_loopg [0, 1] (a + b) (fun k x y wr => ∃ p q : Nat, k = p + q ∧ x = .string (nS p) ∧ y = .string (nS q) ∧ Hid ((nS p).size ≤ 50000) ∧ Hid ((nS q).size ≤ 50000) ∧ Hid (Nat.gcd p q = g) ∧ Hid (Below w.heap.size w wr))
  case atStart => exact ⟨a, b, rfl, rfl, rfl, HA, HB, hg, B0⟩
  case round =>
    clear HA HB hg B0
    obtain ⟨p, q, rfl, rfl, rfl, SP, SQ, HG, BB⟩ := hrel
    have sp := SP.out
    have sq := SQ.out
    rcases Nat.eq_zero_or_pos p with h0 | h0
    · subst h0
      have hga : q = g := by rw [← HG.out, Nat.gcd_zero_left]
      subst hga
      have e0 := nS_zero
      have HN := Lib.hid nS_0
      go_wp2_with fail
      go_ret
      exact ⟨congrArg (fun s => Ending.returned (.string s)) (by rw [HN.out, nil_cat]), BB.out⟩
    · have ea := nS_ne h0
      rcases Nat.eq_zero_or_pos q with h1 | h1
      · subst h1
        have hga : p = g := by rw [← HG.out, Nat.gcd_zero_right]
        subst hga
        have e0 := nS_zero
        have HN := Lib.hid nS_0
        go_wp2_with fail
        go_ret
        exact ⟨congrArg (fun s => Ending.returned (.string s)) (by rw [HN.out, cat_nil]), BB.out⟩
      · have eb := nS_ne h1
        by_cases hlt : (nS p).size < (nS q).size
        · have HG2 : Hid (Nat.gcd q p = g) := (by unfold Hid; rw [Nat.gcd_comm]; exact HG.out)
          by_cases h8 : (nS q).size ≤ 8
          · have x8 : q < 18446744073709551616 := digs_low (k := 8) (by rw [nS_size] at h8; exact h8)
            have y8 : p < 18446744073709551616 := digs_low (k := 8) (by rw [← nS_size]; omega)
            have hgl : g < 18446744073709551616 := by rw [← HG2.out]; exact Nat.lt_of_le_of_lt (Nat.le_of_dvd h1 (Nat.gcd_dvd_left q p)) x8
            go_wp2_with fail
            refine (short_nS q _ x8).mono ?_
            rintro e w' ⟨rfl, rfl⟩
            go_wp2_with fail
            refine (short_nS p _ y8).mono ?_
            rintro e w' ⟨rfl, rfl⟩
            go_wp2_with fail
            refine (common_any q p g _ x8 y8 HG2).mono ?_
            rintro e w' ⟨rfl, q, rfl⟩
            go_wp2_with fail
            refine (fromShort_any g _ hgl).mono ?_
            rintro e w2 ⟨rfl, hb2⟩
            have B2 : Hid (Below w.heap.size w w2) := (below_drewN BB.out q).trans (hb2.mono (below_drewN BB.out q).size)
            clear hb2
            go_wp2_with fail
            go_ret
            exact ⟨rfl, B2.out⟩
          · by_cases h9 : (nS q).size ≤ (nS p).size + 8
            · have h9i : ((nS q).size : Int) ≤ ((nS p).size : Int) + 8 := by omega
              go_wp2_with fail
              refine (halves_any q p g _ SQ.out SP.out h1 h0 HG2 (T0.out.below BB.out)).mono ?_
              rintro e w2 ⟨rfl, hb2⟩
              have B2 := Lib.hid (BB.out.trans (hb2.mono BB.out.size))
              clear hb2
              go_wp2_with fail
              go_ret
              exact ⟨rfl, B2.out⟩
            · have h9i : ¬ ((nS q).size : Int) ≤ ((nS p).size : Int) + 8 := by omega
              have hyx : p ≤ q := by
                rcases Nat.lt_or_ge q p with h | h
                · have := size_mono (Nat.le_of_lt h); omega
                · exact h
              have hm := Nat.mod_lt q h0
              have sm : Hid ((nS (q % p)).size ≤ 50000) := Nat.le_trans (size_mono (Nat.mod_le q p)) SQ.out
              have HG3 : Hid (Nat.gcd p (q % p) = g) := by unfold Hid; rw [← gcd_step]; exact HG2.out
              go_wp2_with fail
              refine (DivG q p _ (by have := SQ.out; omega) (by have := SP.out; omega) h0).mono ?_
              rintro e w2 ⟨rfl, hb2⟩
              have B2 := Lib.hid (BB.out.trans (hb2.mono BB.out.size))
              clear hb2
              go_wp2_with fail
              go_roundg (p + q % p)
              case measure => omega
              case rel => exact ⟨p, q % p, rfl, rfl, rfl, SP, sm, HG3, B2⟩
        · have HG2 : Hid (Nat.gcd p q = g) := HG
          by_cases h8 : (nS p).size ≤ 8
          · have x8 : p < 18446744073709551616 := digs_low (k := 8) (by rw [nS_size] at h8; exact h8)
            have y8 : q < 18446744073709551616 := digs_low (k := 8) (by rw [← nS_size]; omega)
            have hgl : g < 18446744073709551616 := by rw [← HG2.out]; exact Nat.lt_of_le_of_lt (Nat.le_of_dvd h0 (Nat.gcd_dvd_left p q)) x8
            go_wp2_with fail
            refine (short_nS p _ x8).mono ?_
            rintro e w' ⟨rfl, rfl⟩
            go_wp2_with fail
            refine (short_nS q _ y8).mono ?_
            rintro e w' ⟨rfl, rfl⟩
            go_wp2_with fail
            refine (common_any p q g _ x8 y8 HG2).mono ?_
            rintro e w' ⟨rfl, q, rfl⟩
            go_wp2_with fail
            refine (fromShort_any g _ hgl).mono ?_
            rintro e w2 ⟨rfl, hb2⟩
            have B2 : Hid (Below w.heap.size w w2) := (below_drewN BB.out q).trans (hb2.mono (below_drewN BB.out q).size)
            clear hb2
            go_wp2_with fail
            go_ret
            exact ⟨rfl, B2.out⟩
          · by_cases h9 : (nS p).size ≤ (nS q).size + 8
            · have h9i : ((nS p).size : Int) ≤ ((nS q).size : Int) + 8 := by omega
              go_wp2_with fail
              refine (halves_any p q g _ SP.out SQ.out h0 h1 HG2 (T0.out.below BB.out)).mono ?_
              rintro e w2 ⟨rfl, hb2⟩
              have B2 := Lib.hid (BB.out.trans (hb2.mono BB.out.size))
              clear hb2
              go_wp2_with fail
              go_ret
              exact ⟨rfl, B2.out⟩
            · have h9i : ¬ ((nS p).size : Int) ≤ ((nS q).size : Int) + 8 := by omega
              have hyx : q ≤ p := by
                rcases Nat.lt_or_ge p q with h | h
                · have := size_mono (Nat.le_of_lt h); omega
                · exact h
              have hm := Nat.mod_lt p h1
              have sm : Hid ((nS (p % q)).size ≤ 50000) := Nat.le_trans (size_mono (Nat.mod_le p q)) SP.out
              have HG3 : Hid (Nat.gcd q (p % q) = g) := by unfold Hid; rw [← gcd_step]; exact HG2.out
              go_wp2_with fail
              refine (DivG p q _ (by have := SP.out; omega) (by have := SQ.out; omega) h1).mono ?_
              rintro e w2 ⟨rfl, hb2⟩
              have B2 := Lib.hid (BB.out.trans (hb2.mono BB.out.size))
              clear hb2
              go_wp2_with fail
              go_roundg (q + p % q)
              case measure => omega
              case rel => exact ⟨q, p % q, rfl, rfl, rfl, SQ, sm, HG3, B2⟩
end Go.Proofs.YtmfejdikfpckdaaGreatDoor

namespace Go.Proofs.YtmfejdikfpckdaaGreatDoor
open Go.RowKit
set_option linter.unusedVariables false
set_option maxRecDepth 100000

/-! A number as it lies in memory: a good one, or the zero value (which counts as 0) -/
def sgO : Option Rat → Bool
  | none => false
  | some q => decide (q.num < 0)
def nuO : Option Rat → ByteArray
  | none => ⟨#[]⟩
  | some q => nS q.num.natAbs
def deO : Option Rat → ByteArray
  | none => ⟨#[]⟩
  | some q => nS q.den
def valO : Option Rat → Rat
  | none => 0
  | some q => q
/-- Numerator and denominator are below 256^k. -/
structure Sz (k : Nat) (q : Rat) : Prop where
  n : q.num.natAbs < 256 ^ k
  d : q.den < 256 ^ k
theorem Sz.mono {j k : Nat} {q : Rat} (h : Sz j q) (hk : j ≤ k) : Sz k q :=
  ⟨Nat.lt_of_lt_of_le h.n (Nat.pow_le_pow_right (by decide) hk), Nat.lt_of_lt_of_le h.d (Nat.pow_le_pow_right (by decide) hk)⟩
/-- Numerator and denominator are not too large for any walk. -/
structure Sm (q : Rat) : Prop where
  n : (nS q.num.natAbs).size ≤ 10000
  d : (nS q.den).size ≤ 10000
theorem size_of_lt {n k : Nat} (h : n < 256 ^ k) : (nS n).size ≤ k := by rw [nS_size]; exact digs_len h
theorem lt_of_size {n k : Nat} (h : (nS n).size ≤ k) : n < 256 ^ k := by rw [nS_size] at h; exact digs_low h
theorem Sz.sm {k : Nat} {q : Rat} (h : Sz k q) (hk : k ≤ 10000) : Sm q := ⟨Nat.le_trans (size_of_lt h.n) hk, Nat.le_trans (size_of_lt h.d) hk⟩
theorem Sz.zero : Sz 1 0 := ⟨by decide, by decide⟩
theorem size_mul {a b j k : Nat} (ha : (nS a).size ≤ j) (hb : (nS b).size ≤ k) : (nS (a * b)).size ≤ j + k := by
  refine size_of_lt ?_
  have h1 := lt_of_size ha
  have h2 := lt_of_size hb
  rw [Nat.pow_add]
  rcases Nat.eq_zero_or_pos b with h | h
  · subst h
    rw [Nat.mul_zero]
    exact Nat.mul_pos (Nat.pow_pos (by decide)) (Nat.pow_pos (by decide))
  · exact Nat.lt_of_lt_of_le (Nat.mul_lt_mul_of_pos_right h1 h) (Nat.mul_le_mul_left _ (Nat.le_of_lt h2))
theorem size_add {a b k : Nat} (ha : (nS a).size ≤ k) (hb : (nS b).size ≤ k) : (nS (a + b)).size ≤ k + 1 := by
  refine size_of_lt ?_
  have h1 := lt_of_size ha
  have h2 := lt_of_size hb
  rw [Nat.pow_succ]
  omega

theorem head_ne {n : Nat} (h : 0 < n) : ∃ hlt : 0 < (nS n).size, (((nS n)[0].toNat : Int) == 0) = false := by
  obtain ⟨b, r, h1, h2⟩ := digs_head h
  have hlt : 0 < (nS n).size := by rw [nS_size, h1]; simp
  refine ⟨hlt, ?_⟩
  rw [ba_head (t := nS n) (b := b) (r := r) (by rw [nS_list, h1]) hlt, beq_eq_false_iff_ne]
  intro e
  exact h2 (UInt8.toNat_inj.1 (by simpa using e))

/-- What a walk asks of a string. -/
structure SEmpty (s : ByteArray) : Prop where
  a : s.toList.isEmpty = true
  b : s.toList = []
structure SFull (s : ByteArray) : Prop where
  a : s.toList.isEmpty = false
  b : ¬ s.toList = []
  c : 0 < s.size
theorem sEmpty0 : SEmpty (nS 0) := ⟨nS_zero, by rw [ba_toList, nS_list, digs_zero]⟩
theorem sFull {n : Nat} (h : 0 < n) : SFull (nS n) := ⟨nS_ne h, fun e => by have := nS_ne h; rw [e] at this; simp at this, (head_ne h).1⟩
theorem nS_one : nS 1 = ⟨#[1]⟩ := by
  unfold nS digs
  rw [le_pos (by decide), show (1 : Nat) / 256 = 0 from rfl, le_zero]; rfl
theorem toList_one {n : Nat} : (nS n).toList = [1] ↔ n = 1 := by
  constructor
  · intro h
    rw [ba_toList, nS_list] at h
    have e : digs n = digs 1 := by rw [h, ← nS_list, nS_one]
    exact digs_inj e
  · intro h; rw [h, nS_one, ba_toList]
set_option maxHeartbeats 2000000 in
theorem Good_walk (sg : Bool) (n d g : Nat) (w : World) (hd : 0 < d) (hn : (nS n).size ≤ 50000) (hdl : (nS d).size ≤ 50000) (h0 : n = 0 → sg = false ∧ d = 1) (hg : Hid (Nat.gcd n d = g)) (hg1 : g = 1) (hT : Tb w) :
    Calls Tryz.prog 64 #[.agg #[.bool sg, .string (nS n), .string (nS d)]] w fun e w' => e = .returned (.bool true) ∧ Below w.heap.size w w' := by
  have TB0 := Lib.hid hT
  clear hT
  subst hg1
  have B0 := Lib.hid ((Below.refl w.heap.size w).alloc (Nat.le_refl _) (.cells #[.bool sg, .string (nS n), .string (nS d)] 29))
  obtain ⟨d1, d2⟩ := head_ne hd
  have fd := sFull hd
  obtain ⟨D, hD⟩ : ∃ D, D = nS d := ⟨_, rfl⟩
  obtain ⟨N, hN⟩ : ∃ N, N = nS n := ⟨_, rfl⟩
  have d1' : 0 < D.size := by rw [hD]; exact d1
  have d2' : ((D[0].toNat : Int) == 0) = false := by subst hD; exact d2
  have d3' : ¬ D[0].toNat = 0 := by intro e; rw [e] at d2'; simp at d2'
  rw [← hD] at fd
  have f1 := fd.a
  have f2 := fd.b
  have HD := Lib.hid hD
  have HN := Lib.hid hN
  rcases Nat.eq_zero_or_pos n with hn0 | hn0
  · obtain ⟨rfl, rfl⟩ := h0 hn0
    subst hn0
    have t1 : D.toList = [1] := by rw [hD]; exact toList_one.2 rfl
    have t2 : (D.toList == [1]) = true := by rw [t1]; rfl
    have fn := sEmpty0
    rw [← hN] at fn
    have f3 := fn.a
    have f4 := fn.b
    rw [← hD, ← hN] at B0 ⊢
    clear hD hN d1 d2 fd fn h0 hg
    go_enter Tryz.func64, Tryz.ntmps64
    go_wp2_with fail
    go_ret
    exact ⟨rfl, B0.out⟩
  · obtain ⟨n1, n2⟩ := head_ne hn0
    have fn := sFull hn0
    rw [← hN] at fn
    have n1' : 0 < N.size := by rw [hN]; exact n1
    have n2' : ((N[0].toNat : Int) == 0) = false := by subst hN; exact n2
    have n3' : ¬ N[0].toNat = 0 := by intro e; rw [e] at n2'; simp at n2'
    have f3 := fn.a
    have f4 := fn.b
    by_cases hd1 : d = 1
    · subst hd1
      have t1 : D.toList = [1] := by rw [hD]; exact toList_one.2 rfl
      have t2 : (D.toList == [1]) = true := by rw [t1]; rfl
      rw [← hD, ← hN] at B0 ⊢
      clear hD hN d1 d2 n1 n2 fd fn h0 hg
      go_enter Tryz.func64, Tryz.ntmps64
      go_wp2_with fail
      go_ret
      exact ⟨rfl, B0.out⟩
    · have t1 : ¬ D.toList = [1] := by rw [hD, toList_one]; exact hd1
      have t2 : (D.toList == [1]) = false := by simpa using t1
      rw [← hD, ← hN] at B0 ⊢
      have HG : Hid (∀ W : World, Tb W → Calls Tryz.prog 70 #[.string N, .string D] W fun e w' => e = .returned (.string (nS 1)) ∧ Below W.heap.size W w') := fun W hW => by rw [HN.out, HD.out]; exact GcdG n d 1 W hn hdl hg hW
      clear hD hN d1 d2 n1 n2 fd fn h0
      go_enter Tryz.func64, Tryz.ntmps64
      go_wp2_with fail
      refine (HG.out _ (TB0.out.below B0.out)).mono ?_
      rintro e w2 ⟨rfl, hb2⟩
      have B2 := Lib.hid (B0.out.trans (hb2.mono B0.out.size))
      have u1 : (nS 1).toList = [1] := toList_one.2 rfl
      have u2 : ((nS 1).toList == [1]) = true := by rw [u1]; rfl
      clear hb2
      go_wp2_with fail
      go_ret
      exact ⟨by first | rfl | simp, B2.out⟩
theorem Good_some (q : Rat) (w : World) (hs : Sm q) (hT : Tb w) :
    Calls Tryz.prog 64 #[.agg #[.bool (sgO (some q)), .string (nuO (some q)), .string (deO (some q))]] w fun e w' => e = .returned (.bool true) ∧ Below w.heap.size w w' :=
  Good_walk (decide (q.num < 0)) q.num.natAbs q.den 1 w q.den_pos (by have := hs.n; omega) (by have := hs.d; omega) (fun h => by
    have hn : q.num = 0 := by omega
    refine ⟨by rw [hn]; rfl, ?_⟩
    have := q.reduced
    rw [hn] at this
    simpa using this) q.reduced rfl hT
set_option maxHeartbeats 1000000 in
theorem Good_none (w : World) (hT : Tb w) :
    Calls Tryz.prog 64 #[.agg #[.bool (sgO none), .string (nuO none), .string (deO none)]] w fun e w' => e = .returned (.bool false) ∧ Below w.heap.size w w' := by
  have TB0 := Lib.hid hT
  clear hT
  have B0 := Lib.hid ((Below.refl w.heap.size w).alloc (Nat.le_refl _) (.cells #[.bool false, .string ⟨#[]⟩, .string ⟨#[]⟩] 29))
  show Calls _ _ #[.agg #[.bool false, .string ⟨#[]⟩, .string ⟨#[]⟩]] _ _
  go_enter Tryz.func64, Tryz.ntmps64
  go_wp2_with fail
  go_ret
  exact ⟨rfl, B0.out⟩
/-- A contract's number: good or the zero value, and small. -/
def SmO (r : Option Rat) : Prop := Sm (valO r)
theorem Good_any (r : Option Rat) (w : World) (hs : SmO r) (hT : Tb w) :
    Calls Tryz.prog 64 #[.agg #[.bool (sgO r), .string (nuO r), .string (deO r)]] w fun e w' => e = .returned (.bool r.isSome) ∧ Below w.heap.size w w' := by
  have TB0 := Lib.hid hT
  clear hT
  cases r with
  | none => exact Good_none w TB0.out
  | some q => exact Good_some q w hs TB0.out

set_option maxHeartbeats 1000000 in
theorem zero_any (w : World) :
    Calls Tryz.prog 65 #[] w fun e w' => e = .returned (.agg #[.bool (sgO (some 0)), .string (nuO (some 0)), .string (deO (some 0))]) ∧ Below w.heap.size w w' := by
  have Z0 := Lib.hid (Blk.new w 29 #[.bool false, .string ⟨#[]⟩, .string ⟨#[1]⟩])
  have B0 := Lib.hid ((Below.refl w.heap.size w).alloc (Nat.le_refl _) (.cells #[.bool false, .string ⟨#[]⟩, .string ⟨#[1]⟩] 29))
  have e1 : sgO (some 0) = false := rfl
  have e2 : nuO (some 0) = ⟨#[]⟩ := nS_0
  have e3 : deO (some 0) = ⟨#[1]⟩ := nS_one
  rw [e1, e2, e3]
  clear e1 e2 e3
  go_enter Tryz.func65, Tryz.ntmps65
  go_wp2_with fail
  have z0 := Z0.out.cell 0
  have z1 := Z0.out.cell 1
  have z2 := Z0.out.cell 2
  exact bodyPost_ret (v := .agg #[.bool false, .string ⟨#[]⟩, .string ⟨#[1]⟩]) (by simp [results, Tryz.results65, go_sem, z0, z1, z2]) rfl ⟨rfl, B0.out⟩

theorem blk3 {W : World} {b : Nat} {t : TypeId} {a0 a1 a2 : Value} (h : Blk W b t #[a0, a1, a2]) : W.cell? ⟨b, 0, none⟩ = some a0 ∧ W.cell? ⟨b, 1, none⟩ = some a1 ∧ W.cell? ⟨b, 2, none⟩ = some a2 := ⟨h.cell 0, h.cell 1, h.cell 2⟩
theorem frz3 {W : World} {b : Nat} {t : TypeId} {cs : Array Value} (h : Blk W b t cs) : W.frozen? ⟨b, 0, none⟩ = false ∧ W.frozen? ⟨b, 1, none⟩ = false ∧ W.frozen? ⟨b, 2, none⟩ = false := ⟨h.frozen 0, h.frozen 1, h.frozen 2⟩
abbrev set3 (w : World) (b : Nat) (u0 u1 u2 : Value) : World := ((w.setCell ⟨b, 0, none⟩ u0).setCell ⟨b, 1, none⟩ u1).setCell ⟨b, 2, none⟩ u2
theorem Blk.set3 {w : World} {b : Nat} {t : TypeId} {a0 a1 a2 : Value} (h : Blk w b t #[a0, a1, a2]) (u0 u1 u2 : Value) : Blk (set3 w b u0 u1 u2) b t #[u0, u1, u2] := ((h.set_ 0 _).set_ 1 _).set_ 2 _
theorem Blk.far3 {w : World} {g b : Nat} {t : TypeId} {cs : Array Value} (h : Blk w g t cs) (hn : g ≠ b) (u0 u1 u2 : Value) : Blk (Go.Proofs.YtmfejdikfpckdaaGreatDoor.set3 w b u0 u1 u2) g t cs :=
  ((h.far (p := ⟨b, 0, none⟩) hn u0).far (p := ⟨b, 1, none⟩) hn u1).far (p := ⟨b, 2, none⟩) hn u2
theorem below_set3 {B : Nat} {w0 w : World} (h : Below B w0 w) {b : Nat} (hb : B ≤ b) (u0 u1 u2 : Value) : Below B w0 (set3 w b u0 u1 u2) :=
  ((h.setCell (p := ⟨b, 0, none⟩) hb u0).setCell (p := ⟨b, 1, none⟩) hb u1).setCell (p := ⟨b, 2, none⟩) hb u2
theorem blk_second (w : World) (o : Obj) (t : TypeId) (cs : Array Value) : Blk ((w.alloc o).alloc (.cells cs t)) (w.heap.size + 1) t cs := by
  have := Blk.new (w.alloc o) t cs
  simpa using this
set_option maxHeartbeats 2000000 in
theorem fit_any (r : Option Rat) (w : World) (hs : SmO r) (hT : Tb w) :
    Calls Tryz.prog 33 #[.agg #[.bool (sgO r), .string (nuO r), .string (deO r)]] w fun e w' => e = .returned (.agg #[.bool (sgO (some (valO r))), .string (nuO (some (valO r))), .string (deO (some (valO r)))]) ∧ Below w.heap.size w w' := by
  have TB0 := Lib.hid hT
  clear hT
  have B1 := Lib.hid ((Below.refl w.heap.size w).alloc (Nat.le_refl _) (.cells #[.bool (sgO r), .string (nuO r), .string (deO r)] 29))
  have B2 := Lib.hid (B1.out.alloc B1.out.size (.cells #[.bool false, .string ⟨#[]⟩, .string ⟨#[]⟩] 29))
  have X2 := Lib.hid ((Blk.new w 29 #[.bool (sgO r), .string (nuO r), .string (deO r)]).alloc (.cells #[.bool false, .string ⟨#[]⟩, .string ⟨#[]⟩] 29))
  have Z2 := Lib.hid (blk_second w (.cells #[.bool (sgO r), .string (nuO r), .string (deO r)] 29) 29 #[.bool false, .string ⟨#[]⟩, .string ⟨#[]⟩])
  obtain ⟨x0, x1, x2⟩ := blk3 X2.out
  clear B1
  have HS := Lib.hid hs
  clear hs
  go_enter Tryz.func33, Tryz.ntmps33
  go_wp2_with fail
  refine (Good_any r _ HS.out (TB0.out.below B2.out)).mono ?_
  rintro e w3 ⟨rfl, hb3⟩
  have B3 := Lib.hid (B2.out.trans (hb3.mono B2.out.size))
  have X3 := Lib.hid (X2.out.below hb3 X2.out.lt)
  have Z3 := Lib.hid (Z2.out.below hb3 Z2.out.lt)
  clear hb3 B2 X2 Z2 x0 x1 x2
  cases r with
  | none =>
    go_wp2_with fail
    refine (zero_any _).mono ?_
    rintro e w4 ⟨rfl, hb4⟩
    have B4 := Lib.hid (B3.out.trans (hb4.mono B3.out.size))
    have Z4 := Lib.hid (Z3.out.below hb4 Z3.out.lt)
    clear hb4 B3 X3 Z3
    obtain ⟨z0, z1, z2⟩ := blk3 Z4.out
    obtain ⟨f0, f1, f2⟩ := frz3 Z4.out
    have Z5 := Lib.hid (Z4.out.set3 (.bool (sgO (some 0))) (.string (nuO (some 0))) (.string (deO (some 0))))
    have B5 := Lib.hid (below_set3 B4.out (show w.heap.size ≤ w.heap.size + 1 by omega) (.bool (sgO (some 0))) (.string (nuO (some 0))) (.string (deO (some 0))))
    unfold set3 at Z5 B5
    go_wp2_with fail
    clear z0 z1 z2 f0 f1 f2
    obtain ⟨z0, z1, z2⟩ := blk3 Z5.out
    exact bodyPost_ret (v := .agg #[.bool (sgO (some 0)), .string (nuO (some 0)), .string (deO (some 0))]) (by simp [results, Tryz.results33, go_sem, z0, z1, z2]) rfl ⟨rfl, B5.out⟩
  | some q =>
    obtain ⟨x0, x1, x2⟩ := blk3 X3.out
    obtain ⟨z0, z1, z2⟩ := blk3 Z3.out
    obtain ⟨f0, f1, f2⟩ := frz3 Z3.out
    have Z5 := Lib.hid (Z3.out.set3 (.bool (sgO (some q))) (.string (nuO (some q))) (.string (deO (some q))))
    have B5 := Lib.hid (below_set3 B3.out (show w.heap.size ≤ w.heap.size + 1 by omega) (.bool (sgO (some q))) (.string (nuO (some q))) (.string (deO (some q))))
    unfold set3 at Z5 B5
    go_wp2_with fail
    clear z0 z1 z2 f0 f1 f2 x0 x1 x2
    obtain ⟨z0, z1, z2⟩ := blk3 Z5.out
    exact bodyPost_ret (v := .agg #[.bool (sgO (some q)), .string (nuO (some q)), .string (deO (some q))]) (by simp [results, Tryz.results33, go_sem, z0, z1, z2]) rfl ⟨rfl, B5.out⟩
end Go.Proofs.YtmfejdikfpckdaaGreatDoor

namespace Go.Proofs.YtmfejdikfpckdaaGreatDoor
open Go.RowKit
set_option linter.unusedVariables false
set_option maxRecDepth 100000

/-- A sign, a numerator and a denominator. -/
def mkR (neg : Bool) (n d : Nat) : Rat := mkRat (if neg then -(n : Int) else n) d
theorem mkR_zero (neg : Bool) (d : Nat) : mkR neg 0 d = 0 := by unfold mkR; cases neg <;> simp
theorem sgn_abs (neg : Bool) (n : Nat) : (if neg then -(n : Int) else (n : Int)).natAbs = n := by cases neg <;> simp
theorem mkR_cells {neg : Bool} {n d g : Nat} (hn : 0 < n) (hd : 0 < d) (hg : Nat.gcd n d = g) : sgO (some (mkR neg n d)) = neg ∧ nuO (some (mkR neg n d)) = nS (n / g) ∧ deO (some (mkR neg n d)) = nS (d / g) := by
  have e : mkR neg n d = Rat.normalize (if neg then -(n : Int) else n) d (by omega) := by
    unfold mkR; rw [Rat.mkRat_def, dif_neg (by omega)]
  have hg0 : 0 < g := by rw [← hg]; exact Nat.gcd_pos_of_pos_left _ hn
  have hgn : g ∣ n := by rw [← hg]; exact Nat.gcd_dvd_left _ _
  have hq : 0 < n / g := Nat.div_pos (Nat.le_of_dvd hn hgn) hg0
  have num : (mkR neg n d).num = if neg then -((n / g : Nat) : Int) else ((n / g : Nat) : Int) := by
    rw [e, Rat.normalize_eq]
    show (if neg then -(n : Int) else (n : Int)) / ((if neg then -(n : Int) else (n : Int)).natAbs.gcd d : Nat) = _
    rw [sgn_abs, hg]
    cases neg
    · simp
    · simp only [if_true]
      rw [Int.neg_ediv_of_dvd (Int.natCast_dvd_natCast.2 hgn)]
      simp
  have den : (mkR neg n d).den = d / g := by
    rw [e, Rat.normalize_eq]
    show d / ((if neg then -(n : Int) else (n : Int)).natAbs.gcd d) = _
    rw [sgn_abs, hg]
  refine ⟨?_, ?_, ?_⟩
  · show decide ((mkR neg n d).num < 0) = neg
    rw [num]
    generalize n / g = z at hq
    cases neg
    · simp
    · simp; omega
  · show nS (mkR neg n d).num.natAbs = _
    rw [num, sgn_abs]
  · show nS (mkR neg n d).den = _
    rw [den]

/-- The sum of two numbers with signs. -/
def sgnS (neg : Bool) (a : Nat) (minus : Bool) (b : Nat) : Bool × Nat := if neg = minus then (neg, a + b) else if b ≤ a then (neg, a - b) else (minus, b - a)
theorem sgnS_val (neg : Bool) (a : Nat) (minus : Bool) (b : Nat) : (if (sgnS neg a minus b).1 then -((sgnS neg a minus b).2 : Int) else ((sgnS neg a minus b).2 : Int)) = (if neg then -(a : Int) else a) + (if minus then -(b : Int) else b) := by
  unfold sgnS
  cases neg <;> cases minus <;> simp
  · by_cases h : b ≤ a
    · rw [if_pos h]; simp; omega
    · rw [if_neg h]; simp; omega
  · by_cases h : b ≤ a
    · rw [if_pos h]; simp; omega
    · rw [if_neg h]; simp; omega
  · omega
theorem sgnS_sz {neg minus : Bool} {a b k : Nat} (ha : (nS a).size ≤ k) (hb : (nS b).size ≤ k) : (nS (sgnS neg a minus b).2).size ≤ k + 1 := by
  unfold sgnS
  split
  · exact size_add ha hb
  · split
    · exact Nat.le_succ_of_le (Nat.le_trans (size_mono (Nat.sub_le a b)) ha)
    · exact Nat.le_succ_of_le (Nat.le_trans (size_mono (Nat.sub_le b a)) hb)

set_option maxHeartbeats 2000000 in
theorem signed_any (neg minus sg : Bool) (a b m : Nat) (w : World) (ha : (nS a).size ≤ 100000) (hb : (nS b).size ≤ 100000) (hr : Hid (sgnS neg a minus b = (sg, m))) :
    Calls Tryz.prog 39 #[.bool neg, .string (nS a), .bool minus, .string (nS b)] w fun e w' => e = .returned (.tuple #[.bool sg, .string (nS m)]) ∧ Below w.heap.size w w' := by
  have SA : Hid ((nS a).size ≤ 100000) := ha
  have SB : Hid ((nS b).size ≤ 100000) := hb
  by_cases hn : neg = minus
  · subst hn
    have h := hr.out
    unfold sgnS at h
    rw [if_pos rfl] at h
    injection h with h1 h2
    subst h1
    have HM := Lib.hid h2
    have hq : (neg == neg) = true := by simp
    clear h2 hr
    go_enter Tryz.func39, Tryz.ntmps39
    go_wp2_with fail
    refine (AddG a b _ ha hb).mono ?_
    rintro e w2 ⟨rfl, hb2⟩
    rw [HM.out]
    have B2 := Lib.hid hb2
    clear hb2
    go_wp2_with fail
    go_ret2
    exact ⟨rfl, B2.out⟩
  · have hq : (neg == minus) = false := by simpa using hn
    have h := hr.out
    unfold sgnS at h
    rw [if_neg hn] at h
    by_cases hle : b ≤ a
    · rw [if_pos hle] at h
      injection h with h1 h2
      subst h1
      have HM := Lib.hid h2
      have HLE := Lib.hid hle
      clear h2 hr hn hle
      go_enter Tryz.func39, Tryz.ntmps39
      go_wp2_with fail
      refine (Sub_any a b _ SA.out SB.out HLE.out).mono ?_
      rintro e w2 ⟨rfl, hb2⟩
      rw [HM.out]
      have B2 := Lib.hid hb2
      clear hb2
      go_wp2_with fail
      go_ret2
      exact ⟨rfl, B2.out⟩
    · rw [if_neg hle] at h
      injection h with h1 h2
      subst h1
      have HM := Lib.hid h2
      have HLT : Hid (a < b) := by unfold Hid; omega
      clear h2 hr hn hle
      go_enter Tryz.func39, Tryz.ntmps39
      go_wp2_with fail
      refine (Sub_no a b _ SA.out SB.out HLT.out).mono ?_
      rintro e w2 ⟨rfl, rfl⟩
      go_wp2_with fail
      refine (Sub_any b a _ SB.out SA.out (Nat.le_of_lt HLT.out)).mono ?_
      rintro e w2 ⟨rfl, hb2⟩
      rw [HM.out]
      have B2 := Lib.hid hb2
      clear hb2
      go_wp2_with fail
      go_ret2
      exact ⟨rfl, B2.out⟩

set_option maxHeartbeats 2000000 in
theorem made_any (neg : Bool) (n d : Nat) (q : Rat) (w : World) (hn : (nS n).size ≤ 50000) (hd : (nS d).size ≤ 50000) (hd0 : 0 < d) (hq : Hid (mkR neg n d = q)) (hT : Tb w) :
    Calls Tryz.prog 40 #[.bool neg, .string (nS n), .string (nS d)] w fun e w' => e = .returned (.agg #[.bool (sgO (some q)), .string (nuO (some q)), .string (deO (some q))]) ∧ Below w.heap.size w w' := by
  have TB0 := Lib.hid hT
  clear hT
  have Z0 := Lib.hid (Blk.new w 29 #[.bool false, .string ⟨#[]⟩, .string ⟨#[]⟩])
  have B0 := Lib.hid ((Below.refl w.heap.size w).alloc (Nat.le_refl _) (.cells #[.bool false, .string ⟨#[]⟩, .string ⟨#[]⟩] 29))
  rcases Nat.eq_zero_or_pos n with h0 | h0
  · subst h0
    have hq0 : q = 0 := by rw [← hq.out, mkR_zero]
    subst hq0
    have e0 := sEmpty0.a
    have e1 := sEmpty0.b
    go_enter Tryz.func40, Tryz.ntmps40
    go_wp2_with fail
    refine (zero_any _).mono ?_
    rintro e w4 ⟨rfl, hb4⟩
    have B4 := Lib.hid (B0.out.trans (hb4.mono B0.out.size))
    have Z4 := Lib.hid (Z0.out.below hb4 Z0.out.lt)
    clear hb4 B0 Z0
    obtain ⟨z0, z1, z2⟩ := blk3 Z4.out
    obtain ⟨f0, f1, f2⟩ := frz3 Z4.out
    have Z5 := Lib.hid (Z4.out.set3 (.bool (sgO (some 0))) (.string (nuO (some 0))) (.string (deO (some 0))))
    have B5 := Lib.hid (below_set3 B4.out (Nat.le_refl _) (.bool (sgO (some 0))) (.string (nuO (some 0))) (.string (deO (some 0))))
    unfold set3 at Z5 B5
    go_wp2_with fail
    clear z0 z1 z2 f0 f1 f2
    obtain ⟨z0, z1, z2⟩ := blk3 Z5.out
    exact bodyPost_ret (v := .agg #[.bool (sgO (some 0)), .string (nuO (some 0)), .string (deO (some 0))]) (by simp [results, Tryz.results40, go_sem, z0, z1, z2]) rfl ⟨rfl, B5.out⟩
  · have fn := sFull h0
    have e0 := fn.a
    have e1 := fn.b
    obtain ⟨g, hg⟩ : ∃ g, Nat.gcd n d = g := ⟨_, rfl⟩
    obtain ⟨c1, c2, c3⟩ := mkR_cells (neg := neg) h0 hd0 hg
    rw [hq.out] at c1 c2 c3
    have HG := Lib.hid hg
    have C1 := Lib.hid c1
    have C2 := Lib.hid c2
    have C3 := Lib.hid c3
    have hg0 : 0 < g := by rw [← hg]; exact Nat.gcd_pos_of_pos_left _ h0
    have hgl : (nS g).size ≤ 50000 := by rw [← hg]; exact Nat.le_trans (size_mono (Nat.le_of_dvd h0 (Nat.gcd_dvd_left n d))) hn
    clear fn hg c1 c2 c3
    by_cases hd1 : d = 1
    · subst hd1
      have hg1 : g = 1 := by rw [← HG.out, Nat.gcd_one_right]
      subst hg1
      have u1 : (nS 1).toList = [1] := toList_one.2 rfl
      have u2 : ((nS 1).toList == [1]) = true := by rw [u1]; rfl
      have n1 := C2.out
      have n2 := C3.out
      rw [Nat.div_one] at n1 n2
      rw [C1.out, n1, n2]
      have Z5 := Lib.hid (Blk.new w 29 #[.bool neg, .string (nS n), .string (nS 1)])
      have B5 := Lib.hid ((Below.refl w.heap.size w).alloc (Nat.le_refl _) (.cells #[.bool neg, .string (nS n), .string (nS 1)] 29))
      clear n1 n2 hg0 hgl
      go_enter Tryz.func40, Tryz.ntmps40
      go_wp2_with fail
      obtain ⟨z0, z1, z2⟩ := blk3 Z5.out
      exact bodyPost_ret (v := .agg #[.bool neg, .string (nS n), .string (nS 1)]) (by simp [results, Tryz.results40, go_sem, z0, z1, z2]) rfl ⟨rfl, B5.out⟩
    · have t1 : ¬ (nS d).toList = [1] := by rw [toList_one]; exact hd1
      have t2 : ((nS d).toList == [1]) = false := by simpa using t1
      rw [C1.out, C2.out, C3.out]
      clear C1 C2 C3 hd1
      by_cases hg1 : g = 1
      · subst hg1
        have u1 : (nS 1).toList = [1] := toList_one.2 rfl
        have u2 : ((nS 1).toList == [1]) = true := by rw [u1]; rfl
        rw [Nat.div_one, Nat.div_one]
        go_enter Tryz.func40, Tryz.ntmps40
        go_wp2_with fail
        refine (GcdG n d 1 _ hn hd HG (TB0.out.below B0.out)).mono ?_
        rintro e w4 ⟨rfl, hb4⟩
        have B4 := Lib.hid (B0.out.trans (hb4.mono B0.out.size))
        have Z4 := Lib.hid (Z0.out.below hb4 Z0.out.lt)
        clear hb4 B0 Z0
        obtain ⟨z0, z1, z2⟩ := blk3 Z4.out
        obtain ⟨f0, f1, f2⟩ := frz3 Z4.out
        have Z5 := Lib.hid (Z4.out.set3 (.bool neg) (.string (nS n)) (.string (nS d)))
        have B5 := Lib.hid (below_set3 B4.out (Nat.le_refl _) (.bool neg) (.string (nS n)) (.string (nS d)))
        unfold set3 at Z5 B5
        go_wp2_with fail
        clear z0 z1 z2 f0 f1 f2
        obtain ⟨z0, z1, z2⟩ := blk3 Z5.out
        exact bodyPost_ret (v := .agg #[.bool neg, .string (nS n), .string (nS d)]) (by simp [results, Tryz.results40, go_sem, z0, z1, z2]) rfl ⟨rfl, B5.out⟩
      · have u1 : ¬ (nS g).toList = [1] := by rw [toList_one]; exact hg1
        have u2 : ((nS g).toList == [1]) = false := by simpa using u1
        clear hg1
        go_enter Tryz.func40, Tryz.ntmps40
        go_wp2_with fail
        refine (GcdG n d g _ hn hd HG (TB0.out.below B0.out)).mono ?_
        rintro e w4 ⟨rfl, hb4⟩
        have B4 := Lib.hid (B0.out.trans (hb4.mono B0.out.size))
        have Z4 := Lib.hid (Z0.out.below hb4 Z0.out.lt)
        clear hb4 B0 Z0
        go_wp2_with fail
        refine (DivG n g _ (by omega) (by omega) hg0).mono ?_
        rintro e w5 ⟨rfl, hb5⟩
        have B5 := Lib.hid (B4.out.trans (hb5.mono B4.out.size))
        have Z5 := Lib.hid (Z4.out.below hb5 Z4.out.lt)
        clear hb5 B4 Z4
        go_wp2_with fail
        refine (DivG d g _ (by omega) (by omega) hg0).mono ?_
        rintro e w6 ⟨rfl, hb6⟩
        have B6 := Lib.hid (B5.out.trans (hb6.mono B5.out.size))
        have Z6 := Lib.hid (Z5.out.below hb6 Z5.out.lt)
        clear hb6 B5 Z5
        obtain ⟨z0, z1, z2⟩ := blk3 Z6.out
        obtain ⟨f0, f1, f2⟩ := frz3 Z6.out
        have Z7 := Lib.hid (Z6.out.set3 (.bool neg) (.string (nS (n / g))) (.string (nS (d / g))))
        have B7 := Lib.hid (below_set3 B6.out (Nat.le_refl _) (.bool neg) (.string (nS (n / g))) (.string (nS (d / g))))
        unfold set3 at Z7 B7
        go_wp2_with fail
        clear z0 z1 z2 f0 f1 f2
        obtain ⟨z0, z1, z2⟩ := blk3 Z7.out
        exact bodyPost_ret (v := .agg #[.bool neg, .string (nS (n / g)), .string (nS (d / g))]) (by simp [results, Tryz.results40, go_sem, z0, z1, z2]) rfl ⟨rfl, B7.out⟩
end Go.Proofs.YtmfejdikfpckdaaGreatDoor

namespace Go.Proofs.YtmfejdikfpckdaaGreatDoor
open Go.RowKit
set_option linter.unusedVariables false
set_option maxRecDepth 100000

theorem blk_third (w : World) (o1 o2 : Obj) (t : TypeId) (cs : Array Value) : Blk (((w.alloc o1).alloc o2).alloc (.cells cs t)) (w.heap.size + 1 + 1) t cs := by
  have := Blk.new ((w.alloc o1).alloc o2) t cs
  simpa using this
/-- Three boxes of a call. -/
structure B3 (h : Nat) (w0 w : World) (c0 c1 c2 : Array Value) : Prop where
  x : Blk w h 29 c0
  y : Blk w (h + 1) 29 c1
  z : Blk w (h + 1 + 1) 29 c2
  b : Below h w0 w
theorem B3.made (w : World) (c0 c1 c2 : Array Value) : B3 w.heap.size w (((w.alloc (.cells c0 29)).alloc (.cells c1 29)).alloc (.cells c2 29)) c0 c1 c2 :=
  ⟨((Blk.new _ _ _).alloc _).alloc _, (blk_second _ _ _ _).alloc _, blk_third _ _ _ _ _, (((Below.refl _ _).alloc (Nat.le_refl _) _).alloc (by simp) _).alloc (by simp; omega) _⟩
theorem B3.bel {h : Nat} {w0 w w' : World} {c0 c1 c2 : Array Value} (q : B3 h w0 w c0 c1 c2) (hb : Below w.heap.size w w') : B3 h w0 w' c0 c1 c2 :=
  ⟨q.x.below hb q.x.lt, q.y.below hb q.y.lt, q.z.below hb q.z.lt, q.b.trans (hb.mono (Nat.le_of_lt q.x.lt))⟩
theorem B3.two {h : Nat} {w0 w : World} {a0 a1 a2 b0 b1 b2 : Value} {c2 : Array Value} (q : B3 h w0 w #[a0, a1, a2] #[b0, b1, b2] c2) (u0 u1 u2 v0 v1 v2 : Value) :
    B3 h w0 (set3 (set3 w h u0 u1 u2) (h + 1) v0 v1 v2) #[u0, u1, u2] #[v0, v1, v2] c2 :=
  ⟨(q.x.set3 u0 u1 u2).far3 (by omega) _ _ _, (q.y.far3 (by omega) u0 u1 u2).set3 v0 v1 v2, (q.z.far3 (by omega) u0 u1 u2).far3 (by omega) _ _ _, below_set3 (below_set3 q.b (Nat.le_refl _) _ _ _) (by omega) _ _ _⟩
theorem B3.third {h : Nat} {w0 w : World} {c0 c1 : Array Value} {a0 a1 a2 : Value} (q : B3 h w0 w c0 c1 #[a0, a1, a2]) (u0 u1 u2 : Value) :
    B3 h w0 (set3 w (h + 1 + 1) u0 u1 u2) c0 c1 #[u0, u1, u2] :=
  ⟨q.x.far3 (by omega) _ _ _, q.y.far3 (by omega) _ _ _, q.z.set3 _ _ _, below_set3 q.b (by omega) _ _ _⟩

theorem mul_mkR (p q : Rat) : mkR (sgO (some p) != sgO (some q)) (p.num.natAbs * q.num.natAbs) (p.den * q.den) = p * q := by
  rw [Rat.mul_def, Rat.normalize_eq_mkRat]
  unfold mkR
  congr 1
  show (if (decide (p.num < 0) != decide (q.num < 0)) = true then -((p.num.natAbs * q.num.natAbs : Nat) : Int) else ((p.num.natAbs * q.num.natAbs : Nat) : Int)) = p.num * q.num
  generalize p.num = a
  generalize q.num = b
  rw [← Int.natAbs_mul]
  rcases Int.lt_or_le a 0 with ha | ha <;> rcases Int.lt_or_le b 0 with hb | hb
  · have := Int.mul_pos_of_neg_of_neg ha hb
    simp [ha, hb]; omega
  · have := Int.mul_nonpos_of_nonpos_of_nonneg (Int.le_of_lt ha) hb
    simp [ha, Int.not_lt.2 hb]; omega
  · have := Int.mul_nonpos_of_nonneg_of_nonpos ha (Int.le_of_lt hb)
    simp [hb, Int.not_lt.2 ha]; omega
  · have := Int.mul_nonneg ha hb
    simp [Int.not_lt.2 ha, Int.not_lt.2 hb]; omega
theorem mul_lt_u64 {a b : Nat} (ha : (nS a).size ≤ 10000) (hb : (nS b).size ≤ 10000) : (nS (a * b)).size ≤ 20000 := size_mul ha hb
theorem fit_v (r : Option Rat) (p : Rat) (w : World) (hs : SmO r) (hp : Hid (valO r = p)) (hT : Tb w) :
    Calls Tryz.prog 33 #[.agg #[.bool (sgO r), .string (nuO r), .string (deO r)]] w fun e w' => e = .returned (.agg #[.bool (sgO (some p)), .string (nuO (some p)), .string (deO (some p))]) ∧ Below w.heap.size w w' := hp.out ▸ fit_any r w hs hT
theorem sg_mul (a : Int) (d : Nat) : (if decide (a < 0) = true then -((a.natAbs * d : Nat) : Int) else ((a.natAbs * d : Nat) : Int)) = a * d := by
  rcases Int.lt_or_le a 0 with h | h
  · rw [if_pos (by simpa using h), Int.natCast_mul, ← Int.neg_mul]; congr 1; omega
  · rw [if_neg (by simp; omega), Int.natCast_mul]; congr 1; omega
theorem sg_one (a : Int) : (if decide (a < 0) = true then -(a.natAbs : Int) else (a.natAbs : Int)) = a := by
  by_cases h : a < 0
  · rw [if_pos (by simpa using h)]; omega
  · rw [if_neg (by simpa using h)]; omega
theorem add_mkR {p q : Rat} {sg : Bool} {m : Nat} (h : sgnS (sgO (some p)) (p.num.natAbs * q.den) (sgO (some q)) (q.num.natAbs * p.den) = (sg, m)) : mkR sg m (p.den * q.den) = p + q := by
  have hv := sgnS_val (sgO (some p)) (p.num.natAbs * q.den) (sgO (some q)) (q.num.natAbs * p.den)
  rw [h] at hv
  unfold mkR
  rw [hv, Rat.add_def']
  congr 1
  show (if decide (p.num < 0) = true then _ else _) + (if decide (q.num < 0) = true then _ else _) = _
  rw [sg_mul, sg_mul]
theorem add_mkR_same {p q : Rat} {sg : Bool} {m : Nat} (hd : p.den = q.den) (h : sgnS (sgO (some p)) p.num.natAbs (sgO (some q)) q.num.natAbs = (sg, m)) : mkR sg m p.den = p + q := by
  have hv := sgnS_val (sgO (some p)) p.num.natAbs (sgO (some q)) q.num.natAbs
  rw [h] at hv
  unfold mkR
  rw [hv, Rat.add_def', ← hd]
  have e : (if sgO (some p) = true then -(p.num.natAbs : Int) else (p.num.natAbs : Int)) + (if sgO (some q) = true then -(q.num.natAbs : Int) else (q.num.natAbs : Int)) = p.num + q.num := by
    show (if decide (p.num < 0) = true then _ else _) + (if decide (q.num < 0) = true then _ else _) = _
    rw [sg_one, sg_one]
  rw [e, ← Int.add_mul, Rat.mkRat_mul_right p.den_nz]
theorem div_mkR {p q : Rat} (hq : q.num ≠ 0) : mkR (sgO (some p) != sgO (some q)) (p.num.natAbs * q.den) (p.den * q.num.natAbs) = p / q := by
  have hq0 : q ≠ 0 := fun e => hq (by rw [e]; rfl)
  have key : mkR (sgO (some p) != sgO (some q)) (p.num.natAbs * q.den) (p.den * q.num.natAbs) * q = p := by
    have e : (if (sgO (some p) != sgO (some q)) = true then -((p.num.natAbs * q.den : Nat) : Int) else ((p.num.natAbs * q.den : Nat) : Int)) * q.num = p.num * q.den * (q.num.natAbs : Int) := by
      show (if (decide (p.num < 0) != decide (q.num < 0)) = true then _ else _) * q.num = _
      generalize p.num = a
      generalize q.num = b at hq
      generalize (q.den) = e
      rw [Int.natCast_mul]
      rcases Int.lt_or_le a 0 with ha | ha <;> rcases Int.lt_or_le b 0 with hb | hb
      · rw [if_neg (by simp [ha, hb]), show (a.natAbs : Int) = -a by omega, show (b.natAbs : Int) = -b by omega]; grind
      · rw [if_pos (by simp [ha, Int.not_lt.2 hb]), show (a.natAbs : Int) = -a by omega, show (b.natAbs : Int) = b by omega]; grind
      · rw [if_pos (by simp [hb, Int.not_lt.2 ha]), show (a.natAbs : Int) = a by omega, show (b.natAbs : Int) = -b by omega]; grind
      · rw [if_neg (by simp [Int.not_lt.2 ha, Int.not_lt.2 hb]), show (a.natAbs : Int) = a by omega, show (b.natAbs : Int) = b by omega]
    have h1 : mkR (sgO (some p) != sgO (some q)) (p.num.natAbs * q.den) (p.den * q.num.natAbs) * q = mkR (sgO (some p) != sgO (some q)) (p.num.natAbs * q.den) (p.den * q.num.natAbs) * mkRat q.num q.den := by rw [Rat.mkRat_self]
    have h2 : mkRat ((if (sgO (some p) != sgO (some q)) = true then -((p.num.natAbs * q.den : Nat) : Int) else ((p.num.natAbs * q.den : Nat) : Int)) * q.num) (p.den * q.num.natAbs * q.den) = mkRat p.num p.den := by
      rw [Rat.mkRat_eq_iff (Nat.mul_ne_zero (Nat.mul_ne_zero p.den_nz (Int.natAbs_ne_zero.2 hq)) q.den_nz) p.den_nz, e]
      simp only [Int.natCast_mul]
      grind
    rw [h1]
    unfold mkR
    rw [Rat.mkRat_mul_mkRat, h2, Rat.mkRat_self]
  have := Rat.mul_div_cancel (a := mkR (sgO (some p) != sgO (some q)) (p.num.natAbs * q.den) (p.den * q.num.natAbs)) hq0
  rw [key] at this
  exact this.symm
/- GENERATED -/
set_option maxHeartbeats 4000000 in
theorem RMul_any (r t : Option Rat) (v : Rat) (w : World) (hr : SmO r) (ht : SmO t) (hv : Hid (valO r * valO t = v)) (hT : Tb w) :
    Calls Tryz.prog 35 #[.agg #[.bool (sgO r), .string (nuO r), .string (deO r)], .agg #[.bool (sgO t), .string (nuO t), .string (deO t)]] w fun e w' => e = .returned (.agg #[.bool (sgO (some v)), .string (nuO (some v)), .string (deO (some v))]) ∧ Below w.heap.size w w' := by
  have TB0 := Lib.hid hT
  clear hT
  have Q1 := Lib.hid (B3.made w #[.bool (sgO r), .string (nuO r), .string (deO r)] #[.bool (sgO t), .string (nuO t), .string (deO t)] #[.bool false, .string ⟨#[]⟩, .string ⟨#[]⟩])
  have HR := Lib.hid hr
  have HT := Lib.hid ht
  obtain ⟨p, hp⟩ : ∃ p, valO r = p := ⟨_, rfl⟩
  obtain ⟨q, hq⟩ : ∃ q, valO t = q := ⟨_, rfl⟩
  have SP : Hid (Sm p) := by unfold Hid; rw [← hp]; exact hr
  have SQ : Hid (Sm q) := by unfold Hid; rw [← hq]; exact ht
  have HP := Lib.hid hp
  have HQ := Lib.hid hq
  have HV : Hid (mkR (sgO (some p) != sgO (some q)) (p.num.natAbs * q.num.natAbs) (p.den * q.den) = v) := by unfold Hid; rw [mul_mkR, ← hv.out, hp, hq]
  have M1 := Lib.hid (mul_lt_u64 SP.out.n SQ.out.n)
  have M2 := Lib.hid (mul_lt_u64 SP.out.d SQ.out.d)
  have M3 : Hid (0 < p.den * q.den) := Nat.mul_pos p.den_pos q.den_pos
  clear hr ht hp hq
  go_enter Tryz.func35, Tryz.ntmps35
  go_wp2_with fail
  generalize hw1 : ((w.alloc (.cells #[.bool (sgO r), .string (nuO r), .string (deO r)] 29)).alloc (.cells #[.bool (sgO t), .string (nuO t), .string (deO t)] 29)).alloc (.cells #[.bool false, .string ⟨#[]⟩, .string ⟨#[]⟩] 29) = w1 at Q1 ⊢
  clear hw1
  have x0 := fun s : Ext w1 => s.cell (Q1.out.x.cell 0)
  have x1 := fun s : Ext w1 => s.cell (Q1.out.x.cell 1)
  have x2 := fun s : Ext w1 => s.cell (Q1.out.x.cell 2)
  have y0 := fun s : Ext w1 => s.cell (Q1.out.y.cell 0)
  have y1 := fun s : Ext w1 => s.cell (Q1.out.y.cell 1)
  have y2 := fun s : Ext w1 => s.cell (Q1.out.y.cell 2)
  have TE := fun s : Ext w1 => (TB0.out.below Q1.out.b).below s.h
  refine wp_region_ext_tail 4 (by kernel_rfl) (by kernel_rfl) ?_
  simp only [List.take_succ_cons, List.take_zero, List.drop_succ_cons, List.drop_zero]
  repeat (go_big_quiet_step (fail))
  go_big_quiet_step ((go_at_call 33; refine Calls.ext (fit_v r p _ HR.out HP (TE _))))
  repeat (go_big_quiet_step (fail))
  go_big_quiet_step ((go_at_call 33; refine Calls.ext (fit_v t q _ HT.out HQ (TE _))))
  repeat (go_big_quiet_step (fail))
  refine wpQuiet_nil ?_
  clear TE
  intro _ hw'
  obtain ⟨s, rfl⟩ := hw'
  clear x0 x1 x2 y0 y1 y2
  have Q2 := Lib.hid (Q1.out.bel s.h)
  generalize s.to = w2 at Q2 ⊢
  clear s Q1
  obtain ⟨x0, x1, x2⟩ := blk3 Q2.out.x
  obtain ⟨y0, y1, y2⟩ := blk3 Q2.out.y
  obtain ⟨f0, f1, f2⟩ := frz3 Q2.out.x
  obtain ⟨g0, g1, g2⟩ := frz3 Q2.out.y
  clear HR HT HP HQ
  have Q3 := Lib.hid (Q2.out.two (.bool (sgO (some p))) (.string (nuO (some p))) (.string (deO (some p))) (.bool (sgO (some q))) (.string (nuO (some q))) (.string (deO (some q))))
  unfold set3 at Q3
  go_wp2_with fail
  clear x0 x1 x2 y0 y1 y2 f0 f1 f2 g0 g1 g2 Q2
  generalize hw3 : ((((((w2.setCell ⟨w.heap.size, 0, none⟩ (.bool (sgO (some p)))).setCell ⟨w.heap.size, 1, none⟩ (.string (nuO (some p)))).setCell ⟨w.heap.size, 2, none⟩ (.string (deO (some p)))).setCell ⟨w.heap.size + 1, 0, none⟩ (.bool (sgO (some q)))).setCell ⟨w.heap.size + 1, 1, none⟩ (.string (nuO (some q)))).setCell ⟨w.heap.size + 1, 2, none⟩ (.string (deO (some q)))) = w3 at Q3 ⊢
  clear hw3
  have x0 := fun s : Ext w3 => s.cell (Q3.out.x.cell 0)
  have x1 := fun s : Ext w3 => s.cell (Q3.out.x.cell 1)
  have x2 := fun s : Ext w3 => s.cell (Q3.out.x.cell 2)
  have y0 := fun s : Ext w3 => s.cell (Q3.out.y.cell 0)
  have y1 := fun s : Ext w3 => s.cell (Q3.out.y.cell 1)
  have y2 := fun s : Ext w3 => s.cell (Q3.out.y.cell 2)
  have TE := fun s : Ext w3 => (TB0.out.below Q3.out.b).below s.h
  refine wp_region_ext_tail 16 (by kernel_rfl) (by kernel_rfl) ?_
  simp only [List.take_succ_cons, List.take_zero, List.drop_succ_cons, List.drop_zero]
  repeat (go_big_quiet_step (fail))
  go_big_quiet_step ((go_at_call 41; refine Calls.ext (MulG p.num.natAbs q.num.natAbs _ (by have := SP.out.n; omega) (by have := SQ.out.n; omega))))
  repeat (go_big_quiet_step (fail))
  go_big_quiet_step ((go_at_call 41; refine Calls.ext (MulG p.den q.den _ (by have := SP.out.d; omega) (by have := SQ.out.d; omega))))
  repeat (go_big_quiet_step (fail))
  go_big_quiet_step ((go_at_call 40; refine Calls.ext (made_any _ _ _ v _ (by have := M1.out; omega) (by have := M2.out; omega) M3.out HV (TE _))))
  repeat (go_big_quiet_step (fail))
  refine wpQuiet_nil ?_
  clear TE
  intro _ hw'
  obtain ⟨s, rfl⟩ := hw'
  clear x0 x1 x2 y0 y1 y2
  have Q4 := Lib.hid (Q3.out.bel s.h)
  generalize s.to = w4 at Q4 ⊢
  clear s
  obtain ⟨z0, z1, z2⟩ := blk3 Q4.out.z
  obtain ⟨h0, h1, h2⟩ := frz3 Q4.out.z
  have Q5 := Lib.hid (Q4.out.third (.bool (sgO (some v))) (.string (nuO (some v))) (.string (deO (some v))))
  unfold set3 at Q5
  go_wp2_with fail
  clear z0 z1 z2 h0 h1 h2 Q4
  obtain ⟨z0, z1, z2⟩ := blk3 Q5.out.z
  exact bodyPost_ret (v := .agg #[.bool (sgO (some v)), .string (nuO (some v)), .string (deO (some v))]) (by simp [results, Tryz.results35, go_sem, z0, z1, z2]) rfl ⟨rfl, Q5.out.b⟩

set_option maxHeartbeats 4000000 in
theorem RAdd_any (r t : Option Rat) (v : Rat) (w : World) (hr : SmO r) (ht : SmO t) (hv : Hid (valO r + valO t = v)) (hT : Tb w) :
    Calls Tryz.prog 15 #[.agg #[.bool (sgO r), .string (nuO r), .string (deO r)], .agg #[.bool (sgO t), .string (nuO t), .string (deO t)]] w fun e w' => e = .returned (.agg #[.bool (sgO (some v)), .string (nuO (some v)), .string (deO (some v))]) ∧ Below w.heap.size w w' := by
  have TB0 := Lib.hid hT
  clear hT
  have Q1 := Lib.hid (B3.made w #[.bool (sgO r), .string (nuO r), .string (deO r)] #[.bool (sgO t), .string (nuO t), .string (deO t)] #[.bool false, .string ⟨#[]⟩, .string ⟨#[]⟩])
  have HR := Lib.hid hr
  have HT := Lib.hid ht
  obtain ⟨p, hp⟩ : ∃ p, valO r = p := ⟨_, rfl⟩
  obtain ⟨q, hq⟩ : ∃ q, valO t = q := ⟨_, rfl⟩
  have SP : Hid (Sm p) := by unfold Hid; rw [← hp]; exact hr
  have SQ : Hid (Sm q) := by unfold Hid; rw [← hq]; exact ht
  have HP := Lib.hid hp
  have HQ := Lib.hid hq
  have HV : Hid (p + q = v) := by unfold Hid; rw [← hv.out, hp, hq]
  clear hv
  clear hr ht hp hq
  go_enter Tryz.func15, Tryz.ntmps15
  go_wp2_with fail
  generalize hw1 : ((w.alloc (.cells #[.bool (sgO r), .string (nuO r), .string (deO r)] 29)).alloc (.cells #[.bool (sgO t), .string (nuO t), .string (deO t)] 29)).alloc (.cells #[.bool false, .string ⟨#[]⟩, .string ⟨#[]⟩] 29) = w1 at Q1 ⊢
  clear hw1
  have x0 := fun s : Ext w1 => s.cell (Q1.out.x.cell 0)
  have x1 := fun s : Ext w1 => s.cell (Q1.out.x.cell 1)
  have x2 := fun s : Ext w1 => s.cell (Q1.out.x.cell 2)
  have y0 := fun s : Ext w1 => s.cell (Q1.out.y.cell 0)
  have y1 := fun s : Ext w1 => s.cell (Q1.out.y.cell 1)
  have y2 := fun s : Ext w1 => s.cell (Q1.out.y.cell 2)
  have TE := fun s : Ext w1 => (TB0.out.below Q1.out.b).below s.h
  refine wp_region_ext_tail 4 (by kernel_rfl) (by kernel_rfl) ?_
  simp only [List.take_succ_cons, List.take_zero, List.drop_succ_cons, List.drop_zero]
  repeat (go_big_quiet_step (fail))
  go_big_quiet_step ((go_at_call 33; refine Calls.ext (fit_v r p _ HR.out HP (TE _))))
  repeat (go_big_quiet_step (fail))
  go_big_quiet_step ((go_at_call 33; refine Calls.ext (fit_v t q _ HT.out HQ (TE _))))
  repeat (go_big_quiet_step (fail))
  refine wpQuiet_nil ?_
  clear TE
  intro _ hw'
  obtain ⟨s, rfl⟩ := hw'
  clear x0 x1 x2 y0 y1 y2
  have Q2 := Lib.hid (Q1.out.bel s.h)
  generalize s.to = w2 at Q2 ⊢
  clear s Q1
  obtain ⟨x0, x1, x2⟩ := blk3 Q2.out.x
  obtain ⟨y0, y1, y2⟩ := blk3 Q2.out.y
  obtain ⟨f0, f1, f2⟩ := frz3 Q2.out.x
  obtain ⟨g0, g1, g2⟩ := frz3 Q2.out.y
  clear HR HT HP HQ
  have Q3 := Lib.hid (Q2.out.two (.bool (sgO (some p))) (.string (nuO (some p))) (.string (deO (some p))) (.bool (sgO (some q))) (.string (nuO (some q))) (.string (deO (some q))))
  unfold set3 at Q3
  by_cases hde : p.den = q.den
  · have e1 : (deO (some p)).toList = (deO (some q)).toList := by show (nS p.den).toList = (nS q.den).toList; rw [hde]
    have e2 : ((deO (some p)).toList == (deO (some q)).toList) = true := by rw [e1]; simp
    obtain ⟨x30, x31, x32⟩ := blk3 Q3.out.x
    obtain ⟨y30, y31, y32⟩ := blk3 Q3.out.y
    obtain ⟨⟨sg, m⟩, hsm⟩ : ∃ z, sgnS (sgO (some p)) p.num.natAbs (sgO (some q)) q.num.natAbs = z := ⟨_, rfl⟩
    have HSM := Lib.hid hsm
    have hml : (nS m).size ≤ 10001 := by have := sgnS_sz (neg := sgO (some p)) (minus := sgO (some q)) SP.out.n SQ.out.n; rw [hsm] at this; exact this
    have HM : Hid (mkR sg m p.den = v) := by unfold Hid; rw [add_mkR_same hde hsm]; exact HV.out
    clear hde hsm HV
    go_wp2_with fail
    clear x30 x31 x32 y30 y31 y32
    generalize hw3 : ((((((w2.setCell ⟨w.heap.size, 0, none⟩ (.bool (sgO (some p)))).setCell ⟨w.heap.size, 1, none⟩ (.string (nuO (some p)))).setCell ⟨w.heap.size, 2, none⟩ (.string (deO (some p)))).setCell ⟨w.heap.size + 1, 0, none⟩ (.bool (sgO (some q)))).setCell ⟨w.heap.size + 1, 1, none⟩ (.string (nuO (some q)))).setCell ⟨w.heap.size + 1, 2, none⟩ (.string (deO (some q)))) = w3 at Q3 ⊢
    clear hw3
    refine (signed_any (sgO (some p)) (sgO (some q)) sg p.num.natAbs q.num.natAbs m _ (by have := SP.out.n; omega) (by have := SQ.out.n; omega) HSM).mono ?_
    rintro e w4 ⟨rfl, hb4⟩
    have Q4 := Lib.hid (Q3.out.bel hb4)
    clear hb4 Q3
    obtain ⟨x0, x1, x2⟩ := blk3 Q4.out.x
    go_wp2_with fail
    clear x0 x1 x2
    refine (made_any sg m p.den v _ (by omega) (by have := SP.out.d; omega) p.den_pos HM (TB0.out.below Q4.out.b)).mono ?_
    rintro e w5 ⟨rfl, hb5⟩
    have Q5 := Lib.hid (Q4.out.bel hb5)
    clear hb5 Q4
    obtain ⟨z0, z1, z2⟩ := blk3 Q5.out.z
    obtain ⟨h0, h1, h2⟩ := frz3 Q5.out.z
    have Q9 := Lib.hid (Q5.out.third (.bool (sgO (some v))) (.string (nuO (some v))) (.string (deO (some v))))
    unfold set3 at Q9
    go_wp2_with fail
    clear z0 z1 z2 h0 h1 h2 Q5
    obtain ⟨z0, z1, z2⟩ := blk3 Q9.out.z
    exact bodyPost_ret (v := .agg #[.bool (sgO (some v)), .string (nuO (some v)), .string (deO (some v))]) (by simp [results, Tryz.results15, go_sem, z0, z1, z2]) rfl ⟨rfl, Q9.out.b⟩
  · have e1 : ¬ (deO (some p)).toList = (deO (some q)).toList := by
      show ¬ (nS p.den).toList = (nS q.den).toList
      rw [ba_toList, ba_toList, nS_list, nS_list]
      exact fun e => hde (digs_inj e)
    have e2 : ((deO (some p)).toList == (deO (some q)).toList) = false := by simpa using e1
    obtain ⟨x30, x31, x32⟩ := blk3 Q3.out.x
    obtain ⟨y30, y31, y32⟩ := blk3 Q3.out.y
    obtain ⟨⟨sg, m⟩, hsm⟩ : ∃ z, sgnS (sgO (some p)) (p.num.natAbs * q.den) (sgO (some q)) (q.num.natAbs * p.den) = z := ⟨_, rfl⟩
    have HSM := Lib.hid hsm
    have M1 := Lib.hid (mul_lt_u64 SP.out.n SQ.out.d)
    have M2 := Lib.hid (mul_lt_u64 SQ.out.n SP.out.d)
    have M3 := Lib.hid (mul_lt_u64 SP.out.d SQ.out.d)
    have hml : (nS m).size ≤ 20001 := by have := sgnS_sz (neg := sgO (some p)) (minus := sgO (some q)) M1.out M2.out; rw [hsm] at this; exact this
    have HM : Hid (mkR sg m (p.den * q.den) = v) := by unfold Hid; rw [add_mkR hsm]; exact HV.out
    have M4 : Hid (0 < p.den * q.den) := Nat.mul_pos p.den_pos q.den_pos
    clear hde hsm HV
    go_wp2_with fail
    clear x30 x31 x32 y30 y31 y32
    generalize hw3 : ((((((w2.setCell ⟨w.heap.size, 0, none⟩ (.bool (sgO (some p)))).setCell ⟨w.heap.size, 1, none⟩ (.string (nuO (some p)))).setCell ⟨w.heap.size, 2, none⟩ (.string (deO (some p)))).setCell ⟨w.heap.size + 1, 0, none⟩ (.bool (sgO (some q)))).setCell ⟨w.heap.size + 1, 1, none⟩ (.string (nuO (some q)))).setCell ⟨w.heap.size + 1, 2, none⟩ (.string (deO (some q)))) = w3 at Q3 ⊢
    clear hw3
    have x0 := fun s : Ext w3 => s.cell (Q3.out.x.cell 0)
    have x1 := fun s : Ext w3 => s.cell (Q3.out.x.cell 1)
    have x2 := fun s : Ext w3 => s.cell (Q3.out.x.cell 2)
    have y0 := fun s : Ext w3 => s.cell (Q3.out.y.cell 0)
    have y1 := fun s : Ext w3 => s.cell (Q3.out.y.cell 1)
    have y2 := fun s : Ext w3 => s.cell (Q3.out.y.cell 2)
    refine wp_region_ext (by kernel_rfl) (by kernel_rfl) ?_
    repeat (go_big_quiet_step (fail))
    go_big_quiet_step ((go_at_call 41; refine Calls.ext (MulG p.num.natAbs q.den _ (by have := SP.out.n; omega) (by have := SQ.out.d; omega))))
    repeat (go_big_quiet_step (fail))
    go_big_quiet_step ((go_at_call 41; refine Calls.ext (MulG q.num.natAbs p.den _ (by have := SQ.out.n; omega) (by have := SP.out.d; omega))))
    repeat (go_big_quiet_step (fail))
    go_big_quiet_step ((go_at_call 39; refine Calls.ext (signed_any (sgO (some p)) (sgO (some q)) sg _ _ m _ (by have := M1.out; omega) (by have := M2.out; omega) HSM)))
    repeat (go_big_quiet_step (fail))
    refine wpQuiet_nil ?_
    intro _ hw'
    obtain ⟨s, rfl⟩ := hw'
    clear x0 x1 x2 y0 y1 y2
    have Q4 := Lib.hid (Q3.out.bel s.h)
    generalize s.to = w4 at Q4 ⊢
    clear s Q3
    obtain ⟨x0, x1, x2⟩ := blk3 Q4.out.x
    obtain ⟨y0, y1, y2⟩ := blk3 Q4.out.y
    go_wp2_with fail
    clear x0 x1 x2 y0 y1 y2
    refine (MulG p.den q.den _ (by have := SP.out.d; omega) (by have := SQ.out.d; omega)).mono ?_
    rintro e w5 ⟨rfl, hb5⟩
    have Q5 := Lib.hid (Q4.out.bel hb5)
    clear hb5 Q4
    go_wp2_with fail
    refine (made_any sg m (p.den * q.den) v _ (by omega) (by have := M3.out; omega) M4.out HM (TB0.out.below Q5.out.b)).mono ?_
    rintro e w6 ⟨rfl, hb6⟩
    have Q6 := Lib.hid (Q5.out.bel hb6)
    clear hb6 Q5
    obtain ⟨z0, z1, z2⟩ := blk3 Q6.out.z
    obtain ⟨h0, h1, h2⟩ := frz3 Q6.out.z
    have Q9 := Lib.hid (Q6.out.third (.bool (sgO (some v))) (.string (nuO (some v))) (.string (deO (some v))))
    unfold set3 at Q9
    go_wp2_with fail
    clear z0 z1 z2 h0 h1 h2 Q6
    obtain ⟨z0, z1, z2⟩ := blk3 Q9.out.z
    exact bodyPost_ret (v := .agg #[.bool (sgO (some v)), .string (nuO (some v)), .string (deO (some v))]) (by simp [results, Tryz.results15, go_sem, z0, z1, z2]) rfl ⟨rfl, Q9.out.b⟩
end Go.Proofs.YtmfejdikfpckdaaGreatDoor

namespace Go.Proofs.YtmfejdikfpckdaaGreatDoor
open Go.RowKit
set_option linter.unusedVariables false
set_option maxRecDepth 100000

/-- Two boxes of a call. -/
structure B2 (h : Nat) (w0 w : World) (c0 c1 : Array Value) : Prop where
  x : Blk w h 29 c0
  y : Blk w (h + 1) 29 c1
  b : Below h w0 w
theorem B2.made (w : World) (c0 c1 : Array Value) : B2 w.heap.size w ((w.alloc (.cells c0 29)).alloc (.cells c1 29)) c0 c1 :=
  ⟨(Blk.new _ _ _).alloc _, blk_second _ _ _ _, ((Below.refl _ _).alloc (Nat.le_refl _) _).alloc (by simp) _⟩
theorem B2.bel {h : Nat} {w0 w w' : World} {c0 c1 : Array Value} (q : B2 h w0 w c0 c1) (hb : Below w.heap.size w w') : B2 h w0 w' c0 c1 :=
  ⟨q.x.below hb q.x.lt, q.y.below hb q.y.lt, q.b.trans (hb.mono (Nat.le_of_lt q.x.lt))⟩
theorem B2.two {h : Nat} {w0 w : World} {a0 a1 a2 b0 b1 b2 : Value} (q : B2 h w0 w #[a0, a1, a2] #[b0, b1, b2]) (u0 u1 u2 v0 v1 v2 : Value) :
    B2 h w0 (set3 (set3 w h u0 u1 u2) (h + 1) v0 v1 v2) #[u0, u1, u2] #[v0, v1, v2] :=
  ⟨(q.x.set3 u0 u1 u2).far3 (by omega) _ _ _, (q.y.far3 (by omega) u0 u1 u2).set3 v0 v1 v2, below_set3 (below_set3 q.b (Nat.le_refl _) _ _ _) (by omega) _ _ _⟩
theorem B2.fst {h : Nat} {w0 w : World} {a0 a1 a2 : Value} {c1 : Array Value} (q : B2 h w0 w #[a0, a1, a2] c1) (u0 u1 u2 : Value) : B2 h w0 (set3 w h u0 u1 u2) #[u0, u1, u2] c1 :=
  ⟨q.x.set3 _ _ _, q.y.far3 (by omega) _ _ _, below_set3 q.b (Nat.le_refl _) _ _ _⟩
/-- The order of two numbers. -/
def cmpQ (p q : Rat) : Int := if p < q then -1 else if q < p then 1 else 0
theorem cmpQ_le {p q : Rat} : cmpQ p q ≤ 0 ↔ p ≤ q := by
  unfold cmpQ
  by_cases h : p < q
  · rw [if_pos h]; exact ⟨fun _ => Rat.le_of_lt h, fun _ => by decide⟩
  · rw [if_neg h]
    by_cases h2 : q < p
    · rw [if_pos h2]; exact ⟨fun h => by omega, fun h => absurd h (Rat.not_le.2 h2)⟩
    · rw [if_neg h2]; exact ⟨fun _ => Rat.not_lt.1 h2, fun _ => by decide⟩
theorem cmpQ_ge {p q : Rat} : 0 ≤ cmpQ p q ↔ q ≤ p := by
  unfold cmpQ
  by_cases h : p < q
  · rw [if_pos h]; exact ⟨fun h => by omega, fun h2 => absurd h2 (Rat.not_le.2 h)⟩
  · rw [if_neg h]
    have h1 := Rat.not_lt.1 h
    by_cases h2 : q < p
    · rw [if_pos h2]; exact ⟨fun _ => h1, fun _ => by decide⟩
    · rw [if_neg h2]; exact ⟨fun _ => h1, fun _ => by decide⟩
theorem cmpQ_eq {p q : Rat} : cmpQ p q = 0 ↔ p = q := by
  constructor
  · intro h; exact Rat.le_antisymm (cmpQ_le.1 (by omega)) (cmpQ_ge.1 (by omega))
  · intro h; subst h; unfold cmpQ; simp
theorem cmpQ_lt {p q : Rat} : cmpQ p q < 0 ↔ p < q := by
  rw [← Rat.not_le, ← cmpQ_ge]; omega
theorem cmpQ_rng (p q : Rat) : -1 ≤ cmpQ p q ∧ cmpQ p q ≤ 1 := by unfold cmpQ; split; omega; split <;> omega
theorem cmpQ_num (p q : Rat) : cmpQ p q = if p.num * q.den < q.num * p.den then -1 else if q.num * p.den < p.num * q.den then 1 else 0 := by
  unfold cmpQ
  simp only [Rat.lt_iff]
theorem cmpQ_pos {p q : Rat} (hp : ¬ p.num < 0) (hq : ¬ q.num < 0) : cmpQ p q = cmpN (p.num.natAbs * q.den) (q.num.natAbs * p.den) := by
  rw [cmpQ_num]
  unfold cmpN
  have e1 : p.num * q.den = ((p.num.natAbs * q.den : Nat) : Int) := by rw [Int.natCast_mul]; congr 1; omega
  have e2 : q.num * p.den = ((q.num.natAbs * p.den : Nat) : Int) := by rw [Int.natCast_mul]; congr 1; omega
  rw [e1, e2]
  simp only [Int.ofNat_lt]
theorem cmpQ_neg {p q : Rat} (hp : p.num < 0) (hq : q.num < 0) : cmpQ p q = -cmpN (p.num.natAbs * q.den) (q.num.natAbs * p.den) := by
  rw [cmpQ_num]
  unfold cmpN
  have e1 : p.num * q.den = -((p.num.natAbs * q.den : Nat) : Int) := by rw [Int.natCast_mul, ← Int.neg_mul]; congr 1; omega
  have e2 : q.num * p.den = -((q.num.natAbs * p.den : Nat) : Int) := by rw [Int.natCast_mul, ← Int.neg_mul]; congr 1; omega
  rw [e1, e2]
  generalize p.num.natAbs * q.den = a
  generalize q.num.natAbs * p.den = b
  split
  · rw [if_neg (by omega), if_pos (by omega)]
  · split
    · rw [if_pos (by omega)]; rfl
    · rw [if_neg (by omega), if_neg (by omega)]; rfl
theorem cmpQ_mixed1 {p q : Rat} (hp : p.num < 0) (hq : ¬ q.num < 0) : cmpQ p q = -1 := by
  rw [cmpQ_num, if_pos]
  have h1 : p.num * q.den < 0 := Int.mul_neg_of_neg_of_pos hp (by have := q.den_pos; omega)
  have h2 : 0 ≤ q.num * p.den := Int.mul_nonneg (by omega) (by omega)
  omega
theorem cmpQ_mixed2 {p q : Rat} (hp : ¬ p.num < 0) (hq : q.num < 0) : cmpQ p q = 1 := by
  have h1 : q.num * p.den < 0 := Int.mul_neg_of_neg_of_pos hq (by have := p.den_pos; omega)
  have h2 : 0 ≤ p.num * q.den := Int.mul_nonneg (by omega) (by omega)
  rw [cmpQ_num, if_neg (by omega), if_pos (by omega)]

set_option maxHeartbeats 4000000 in
theorem RDiv_any (r t : Option Rat) (v : Rat) (w : World) (hr : SmO r) (ht : SmO t) (h0 : valO t ≠ 0) (hv : Hid (valO r / valO t = v)) (hT : Tb w) :
    Calls Tryz.prog 34 #[.agg #[.bool (sgO r), .string (nuO r), .string (deO r)], .agg #[.bool (sgO t), .string (nuO t), .string (deO t)]] w fun e w' => e = .returned (.tuple #[.agg #[.bool (sgO (some v)), .string (nuO (some v)), .string (deO (some v))], .int .i64 0]) ∧ Below w.heap.size w w' := by
  have TB0 := Lib.hid hT
  clear hT
  have Q1 := Lib.hid (B3.made w #[.bool (sgO r), .string (nuO r), .string (deO r)] #[.bool (sgO t), .string (nuO t), .string (deO t)] #[.bool false, .string ⟨#[]⟩, .string ⟨#[]⟩])
  have HR := Lib.hid hr
  have HT := Lib.hid ht
  obtain ⟨p, hp⟩ : ∃ p, valO r = p := ⟨_, rfl⟩
  obtain ⟨q, hq⟩ : ∃ q, valO t = q := ⟨_, rfl⟩
  have SP : Hid (Sm p) := by unfold Hid; rw [← hp]; exact hr
  have SQ : Hid (Sm q) := by unfold Hid; rw [← hq]; exact ht
  have HP := Lib.hid hp
  have HQ := Lib.hid hq
  have hqn : q.num ≠ 0 := fun e => h0 (by rw [hq]; exact Rat.num_eq_zero.1 e)
  have HV : Hid (mkR (sgO (some p) != sgO (some q)) (p.num.natAbs * q.den) (p.den * q.num.natAbs) = v) := by unfold Hid; rw [div_mkR hqn, ← hv.out, hp, hq]
  have M1 := Lib.hid (mul_lt_u64 SP.out.n SQ.out.d)
  have M2 := Lib.hid (mul_lt_u64 SP.out.d SQ.out.n)
  have M3 : Hid (0 < p.den * q.num.natAbs) := Nat.mul_pos p.den_pos (by omega)
  have fq := sFull (n := q.num.natAbs) (by omega)
  have k1 : (nuO (some q)).toList.isEmpty = false := fq.a
  have k2 : ¬ (nuO (some q)).toList = [] := fq.b
  clear fq h0 hqn
  clear hr ht hp hq
  go_enter Tryz.func34, Tryz.ntmps34
  go_wp2_with fail
  generalize hw1 : ((w.alloc (.cells #[.bool (sgO r), .string (nuO r), .string (deO r)] 29)).alloc (.cells #[.bool (sgO t), .string (nuO t), .string (deO t)] 29)).alloc (.cells #[.bool false, .string ⟨#[]⟩, .string ⟨#[]⟩] 29) = w1 at Q1 ⊢
  clear hw1
  have x0 := fun s : Ext w1 => s.cell (Q1.out.x.cell 0)
  have x1 := fun s : Ext w1 => s.cell (Q1.out.x.cell 1)
  have x2 := fun s : Ext w1 => s.cell (Q1.out.x.cell 2)
  have y0 := fun s : Ext w1 => s.cell (Q1.out.y.cell 0)
  have y1 := fun s : Ext w1 => s.cell (Q1.out.y.cell 1)
  have y2 := fun s : Ext w1 => s.cell (Q1.out.y.cell 2)
  have TE := fun s : Ext w1 => (TB0.out.below Q1.out.b).below s.h
  refine wp_region_ext_tail 4 (by kernel_rfl) (by kernel_rfl) ?_
  simp only [List.take_succ_cons, List.take_zero, List.drop_succ_cons, List.drop_zero]
  repeat (go_big_quiet_step (fail))
  go_big_quiet_step ((go_at_call 33; refine Calls.ext (fit_v r p _ HR.out HP (TE _))))
  repeat (go_big_quiet_step (fail))
  go_big_quiet_step ((go_at_call 33; refine Calls.ext (fit_v t q _ HT.out HQ (TE _))))
  repeat (go_big_quiet_step (fail))
  refine wpQuiet_nil ?_
  clear TE
  intro _ hw'
  obtain ⟨s, rfl⟩ := hw'
  clear x0 x1 x2 y0 y1 y2
  have Q2 := Lib.hid (Q1.out.bel s.h)
  generalize s.to = w2 at Q2 ⊢
  clear s Q1
  obtain ⟨x0, x1, x2⟩ := blk3 Q2.out.x
  obtain ⟨y0, y1, y2⟩ := blk3 Q2.out.y
  obtain ⟨f0, f1, f2⟩ := frz3 Q2.out.x
  obtain ⟨g0, g1, g2⟩ := frz3 Q2.out.y
  clear HR HT HP HQ
  have Q3 := Lib.hid (Q2.out.two (.bool (sgO (some p))) (.string (nuO (some p))) (.string (deO (some p))) (.bool (sgO (some q))) (.string (nuO (some q))) (.string (deO (some q))))
  unfold set3 at Q3
  obtain ⟨y30, y31, y32⟩ := blk3 Q3.out.y
  go_wp2_with fail
  clear x0 x1 x2 y0 y1 y2 f0 f1 f2 g0 g1 g2 Q2 y30 y31 y32
  generalize hw3 : ((((((w2.setCell ⟨w.heap.size, 0, none⟩ (.bool (sgO (some p)))).setCell ⟨w.heap.size, 1, none⟩ (.string (nuO (some p)))).setCell ⟨w.heap.size, 2, none⟩ (.string (deO (some p)))).setCell ⟨w.heap.size + 1, 0, none⟩ (.bool (sgO (some q)))).setCell ⟨w.heap.size + 1, 1, none⟩ (.string (nuO (some q)))).setCell ⟨w.heap.size + 1, 2, none⟩ (.string (deO (some q)))) = w3 at Q3 ⊢
  clear hw3
  have x0 := fun s : Ext w3 => s.cell (Q3.out.x.cell 0)
  have x1 := fun s : Ext w3 => s.cell (Q3.out.x.cell 1)
  have x2 := fun s : Ext w3 => s.cell (Q3.out.x.cell 2)
  have y0 := fun s : Ext w3 => s.cell (Q3.out.y.cell 0)
  have y1 := fun s : Ext w3 => s.cell (Q3.out.y.cell 1)
  have y2 := fun s : Ext w3 => s.cell (Q3.out.y.cell 2)
  have TE := fun s : Ext w3 => (TB0.out.below Q3.out.b).below s.h
  refine wp_region_ext_tail 16 (by kernel_rfl) (by kernel_rfl) ?_
  simp only [List.take_succ_cons, List.take_zero, List.drop_succ_cons, List.drop_zero]
  repeat (go_big_quiet_step (fail))
  go_big_quiet_step ((go_at_call 41; refine Calls.ext (MulG p.num.natAbs q.den _ (by have := SP.out.n; omega) (by have := SQ.out.d; omega))))
  repeat (go_big_quiet_step (fail))
  go_big_quiet_step ((go_at_call 41; refine Calls.ext (MulG p.den q.num.natAbs _ (by have := SP.out.d; omega) (by have := SQ.out.n; omega))))
  repeat (go_big_quiet_step (fail))
  go_big_quiet_step ((go_at_call 40; refine Calls.ext (made_any _ _ _ v _ (by have := M1.out; omega) (by have := M2.out; omega) M3.out HV (TE _))))
  repeat (go_big_quiet_step (fail))
  refine wpQuiet_nil ?_
  clear TE
  intro _ hw'
  obtain ⟨s, rfl⟩ := hw'
  clear x0 x1 x2 y0 y1 y2
  have Q4 := Lib.hid (Q3.out.bel s.h)
  generalize s.to = w4 at Q4 ⊢
  clear s
  obtain ⟨z0, z1, z2⟩ := blk3 Q4.out.z
  obtain ⟨h0, h1, h2⟩ := frz3 Q4.out.z
  have Q5 := Lib.hid (Q4.out.third (.bool (sgO (some v))) (.string (nuO (some v))) (.string (deO (some v))))
  unfold set3 at Q5
  go_wp2_with fail
  clear z0 z1 z2 h0 h1 h2 Q4
  obtain ⟨z0, z1, z2⟩ := blk3 Q5.out.z
  exact bodyPost_ret (v := .tuple #[.agg #[.bool (sgO (some v)), .string (nuO (some v)), .string (deO (some v))], .int .i64 0]) (by simp [results, Tryz.results34, go_sem, z0, z1, z2]) rfl ⟨rfl, Q5.out.b⟩

set_option maxHeartbeats 4000000 in
theorem RCmp_any (r t : Option Rat) (v : Int) (w : World) (hr : SmO r) (ht : SmO t) (hv : Hid (cmpQ (valO r) (valO t) = v)) (hT : Tb w) :
    Calls Tryz.prog 26 #[.agg #[.bool (sgO r), .string (nuO r), .string (deO r)], .agg #[.bool (sgO t), .string (nuO t), .string (deO t)]] w fun e w' => e = .returned (.int .i64 v) ∧ Below w.heap.size w w' := by
  have TB0 := Lib.hid hT
  clear hT
  have Q1 := Lib.hid (B2.made w #[.bool (sgO r), .string (nuO r), .string (deO r)] #[.bool (sgO t), .string (nuO t), .string (deO t)])
  have HR := Lib.hid hr
  have HT := Lib.hid ht
  obtain ⟨p, hp⟩ : ∃ p, valO r = p := ⟨_, rfl⟩
  obtain ⟨q, hq⟩ : ∃ q, valO t = q := ⟨_, rfl⟩
  have SP : Hid (Sm p) := by unfold Hid; rw [← hp]; exact hr
  have SQ : Hid (Sm q) := by unfold Hid; rw [← hq]; exact ht
  have HP := Lib.hid hp
  have HQ := Lib.hid hq
  have HV : Hid (cmpQ p q = v) := by unfold Hid; rw [← hv.out, hp, hq]
  clear hv
  clear hr ht hp hq
  go_enter Tryz.func26, Tryz.ntmps26
  go_wp2_with fail
  generalize hw1 : (w.alloc (.cells #[.bool (sgO r), .string (nuO r), .string (deO r)] 29)).alloc (.cells #[.bool (sgO t), .string (nuO t), .string (deO t)] 29) = w1 at Q1 ⊢
  clear hw1
  have x0 := fun s : Ext w1 => s.cell (Q1.out.x.cell 0)
  have x1 := fun s : Ext w1 => s.cell (Q1.out.x.cell 1)
  have x2 := fun s : Ext w1 => s.cell (Q1.out.x.cell 2)
  have y0 := fun s : Ext w1 => s.cell (Q1.out.y.cell 0)
  have y1 := fun s : Ext w1 => s.cell (Q1.out.y.cell 1)
  have y2 := fun s : Ext w1 => s.cell (Q1.out.y.cell 2)
  have TE := fun s : Ext w1 => (TB0.out.below Q1.out.b).below s.h
  refine wp_region_ext_tail 4 (by kernel_rfl) (by kernel_rfl) ?_
  simp only [List.take_succ_cons, List.take_zero, List.drop_succ_cons, List.drop_zero]
  repeat (go_big_quiet_step (fail))
  go_big_quiet_step ((go_at_call 33; refine Calls.ext (fit_v r p _ HR.out HP (TE _))))
  repeat (go_big_quiet_step (fail))
  go_big_quiet_step ((go_at_call 33; refine Calls.ext (fit_v t q _ HT.out HQ (TE _))))
  repeat (go_big_quiet_step (fail))
  refine wpQuiet_nil ?_
  clear TE
  intro _ hw'
  obtain ⟨s, rfl⟩ := hw'
  clear x0 x1 x2 y0 y1 y2
  have Q2 := Lib.hid (Q1.out.bel s.h)
  generalize s.to = w2 at Q2 ⊢
  clear s Q1
  obtain ⟨x0, x1, x2⟩ := blk3 Q2.out.x
  obtain ⟨y0, y1, y2⟩ := blk3 Q2.out.y
  obtain ⟨f0, f1, f2⟩ := frz3 Q2.out.x
  obtain ⟨g0, g1, g2⟩ := frz3 Q2.out.y
  clear HR HT HP HQ
  have Q3 := Lib.hid (Q2.out.two (.bool (sgO (some p))) (.string (nuO (some p))) (.string (deO (some p))) (.bool (sgO (some q))) (.string (nuO (some q))) (.string (deO (some q))))
  unfold set3 at Q3
  obtain ⟨x30, x31, x32⟩ := blk3 Q3.out.x
  obtain ⟨y30, y31, y32⟩ := blk3 Q3.out.y
  by_cases hpn : p.num < 0
  · have s1 : sgO (some p) = true := decide_eq_true hpn
    by_cases hqn : q.num < 0
    · have s2 : sgO (some q) = true := decide_eq_true hqn
      obtain ⟨n, hn⟩ : ∃ n, cmpN (p.num.natAbs * q.den) (q.num.natAbs * p.den) = n := ⟨_, rfl⟩
      have hvn : v = -n := by rw [← HV.out, cmpQ_neg hpn hqn, hn]
      have HN := Lib.hid hn
      have nr : -1 ≤ n ∧ n ≤ 1 := by have := cmpQ_rng p q; rw [HV.out] at this; omega
      obtain ⟨nr1, nr2⟩ := nr
      have M1 := Lib.hid (mul_lt_u64 SP.out.n SQ.out.d)
      have M2 := Lib.hid (mul_lt_u64 SQ.out.n SP.out.d)
      have Z1 : Hid ((nS (p.num.natAbs * q.den)).size ≤ 100000) := Nat.le_trans M1.out (by decide)
      have Z2 : Hid ((nS (q.num.natAbs * p.den)).size ≤ 100000) := Nat.le_trans M2.out (by decide)
      have HVN := Lib.hid hvn
      rw [s1, s2] at Q3 x30 y30
      rw [s1, s2]
      clear hn hvn HV hpn hqn
      go_wp2_with fail
      clear x30 x31 x32 y30 y31 y32
      generalize hw3 : ((((((w2.setCell ⟨w.heap.size, 0, none⟩ (.bool true)).setCell ⟨w.heap.size, 1, none⟩ (.string (nuO (some p)))).setCell ⟨w.heap.size, 2, none⟩ (.string (deO (some p)))).setCell ⟨w.heap.size + 1, 0, none⟩ (.bool true)).setCell ⟨w.heap.size + 1, 1, none⟩ (.string (nuO (some q)))).setCell ⟨w.heap.size + 1, 2, none⟩ (.string (deO (some q)))) = w3 at Q3 ⊢
      clear hw3
      have x0 := fun s : Ext w3 => s.cell (Q3.out.x.cell 0)
      have x1 := fun s : Ext w3 => s.cell (Q3.out.x.cell 1)
      have x2 := fun s : Ext w3 => s.cell (Q3.out.x.cell 2)
      have y0 := fun s : Ext w3 => s.cell (Q3.out.y.cell 0)
      have y1 := fun s : Ext w3 => s.cell (Q3.out.y.cell 1)
      have y2 := fun s : Ext w3 => s.cell (Q3.out.y.cell 2)
      refine wp_region_ext (by kernel_rfl) (by kernel_rfl) ?_
      repeat (go_big_quiet_step (fail))
      go_big_quiet_step ((go_at_call 41; refine Calls.ext (MulG p.num.natAbs q.den _ (by have := SP.out.n; omega) (by have := SQ.out.d; omega))))
      repeat (go_big_quiet_step (fail))
      go_big_quiet_step ((go_at_call 41; refine Calls.ext (MulG q.num.natAbs p.den _ (by have := SQ.out.n; omega) (by have := SP.out.d; omega))))
      repeat (go_big_quiet_step (fail))
      go_big_quiet_step ((go_at_call 54; refine Calls.ext_same (Cmp_any _ _ n _ Z1.out Z2.out HN)))
      repeat (go_big_quiet_step (fail))
      refine wpQuiet_nil ?_
      intro _ hw'
      obtain ⟨s, rfl⟩ := hw'
      clear x0 x1 x2 y0 y1 y2
      have Q4 := Lib.hid (Q3.out.bel s.h)
      generalize s.to = w4 at Q4 ⊢
      clear s Q3
      obtain ⟨x0, x1, x2⟩ := blk3 Q4.out.x
      go_wp2_with fail
      go_ret
      exact ⟨ret_int HVN.out.symm, Q4.out.b⟩
    · have s2 : sgO (some q) = false := decide_eq_false hqn
      have hvn : v = -1 := by rw [← HV.out, cmpQ_mixed1 hpn hqn]
      subst hvn
      rw [s1, s2] at Q3 x30 y30
      rw [s1, s2]
      clear HV hpn hqn
      go_wp2_with fail
      go_ret
      exact ⟨rfl, Q3.out.b⟩
  · have s1 : sgO (some p) = false := decide_eq_false hpn
    by_cases hqn : q.num < 0
    · have s2 : sgO (some q) = true := decide_eq_true hqn
      have hvn : v = 1 := by rw [← HV.out, cmpQ_mixed2 hpn hqn]
      subst hvn
      rw [s1, s2] at Q3 x30 y30
      rw [s1, s2]
      clear HV hpn hqn
      go_wp2_with fail
      go_ret
      exact ⟨rfl, Q3.out.b⟩
    · have s2 : sgO (some q) = false := decide_eq_false hqn
      obtain ⟨n, hn⟩ : ∃ n, cmpN (p.num.natAbs * q.den) (q.num.natAbs * p.den) = n := ⟨_, rfl⟩
      have hvn : v = n := by rw [← HV.out, cmpQ_pos hpn hqn, hn]
      subst hvn
      have HN := Lib.hid hn
      have M1 := Lib.hid (mul_lt_u64 SP.out.n SQ.out.d)
      have M2 := Lib.hid (mul_lt_u64 SQ.out.n SP.out.d)
      have Z1 : Hid ((nS (p.num.natAbs * q.den)).size ≤ 100000) := Nat.le_trans M1.out (by decide)
      have Z2 : Hid ((nS (q.num.natAbs * p.den)).size ≤ 100000) := Nat.le_trans M2.out (by decide)
      rw [s1, s2] at Q3 x30 y30
      rw [s1, s2]
      clear hn HV hpn hqn
      go_wp2_with fail
      clear x30 x31 x32 y30 y31 y32
      generalize hw3 : ((((((w2.setCell ⟨w.heap.size, 0, none⟩ (.bool false)).setCell ⟨w.heap.size, 1, none⟩ (.string (nuO (some p)))).setCell ⟨w.heap.size, 2, none⟩ (.string (deO (some p)))).setCell ⟨w.heap.size + 1, 0, none⟩ (.bool false)).setCell ⟨w.heap.size + 1, 1, none⟩ (.string (nuO (some q)))).setCell ⟨w.heap.size + 1, 2, none⟩ (.string (deO (some q)))) = w3 at Q3 ⊢
      clear hw3
      have x0 := fun s : Ext w3 => s.cell (Q3.out.x.cell 0)
      have x1 := fun s : Ext w3 => s.cell (Q3.out.x.cell 1)
      have x2 := fun s : Ext w3 => s.cell (Q3.out.x.cell 2)
      have y0 := fun s : Ext w3 => s.cell (Q3.out.y.cell 0)
      have y1 := fun s : Ext w3 => s.cell (Q3.out.y.cell 1)
      have y2 := fun s : Ext w3 => s.cell (Q3.out.y.cell 2)
      refine wp_region_ext (by kernel_rfl) (by kernel_rfl) ?_
      repeat (go_big_quiet_step (fail))
      go_big_quiet_step ((go_at_call 41; refine Calls.ext (MulG p.num.natAbs q.den _ (by have := SP.out.n; omega) (by have := SQ.out.d; omega))))
      repeat (go_big_quiet_step (fail))
      go_big_quiet_step ((go_at_call 41; refine Calls.ext (MulG q.num.natAbs p.den _ (by have := SQ.out.n; omega) (by have := SP.out.d; omega))))
      repeat (go_big_quiet_step (fail))
      go_big_quiet_step ((go_at_call 54; refine Calls.ext_same (Cmp_any _ _ v _ Z1.out Z2.out HN)))
      repeat (go_big_quiet_step (fail))
      refine wpQuiet_nil ?_
      intro _ hw'
      obtain ⟨s, rfl⟩ := hw'
      clear x0 x1 x2 y0 y1 y2
      have Q4 := Lib.hid (Q3.out.bel s.h)
      generalize s.to = w4 at Q4 ⊢
      clear s Q3
      obtain ⟨x0, x1, x2⟩ := blk3 Q4.out.x
      go_wp2_with fail
      go_ret
      exact ⟨rfl, Q4.out.b⟩
end Go.Proofs.YtmfejdikfpckdaaGreatDoor

namespace Go.Proofs.YtmfejdikfpckdaaGreatDoor
open Go.RowKit
set_option linter.unusedVariables false
set_option maxRecDepth 100000

theorem neg_cells (p : Rat) : sgO (some (-p)) = (!sgO (some p) && !decide (p.num = 0)) ∧ nuO (some (-p)) = nuO (some p) ∧ deO (some (-p)) = deO (some p) := by
  refine ⟨?_, ?_, ?_⟩
  · show decide ((-p).num < 0) = (!decide (p.num < 0) && !decide (p.num = 0))
    rw [Rat.neg_num]
    generalize p.num = a
    rcases Int.lt_trichotomy a 0 with h | h | h
    · rw [decide_eq_false (by omega), decide_eq_true h]; rfl
    · subst h; rfl
    · rw [decide_eq_true (show -a < 0 by omega), decide_eq_false (show ¬ a < 0 by omega), decide_eq_false (show ¬ a = 0 by omega)]; rfl
  · show nS (-p).num.natAbs = nS p.num.natAbs
    rw [Rat.neg_num, Int.natAbs_neg]
  · show nS (-p).den = nS p.den
    rw [Rat.neg_den]
theorem Sz.neg {k : Nat} {p : Rat} (h : Sz k p) : Sz k (-p) := ⟨by rw [Rat.neg_num, Int.natAbs_neg]; exact h.n, by rw [Rat.neg_den]; exact h.d⟩
theorem Sm.neg {p : Rat} (h : Sm p) : Sm (-p) := ⟨by rw [Rat.neg_num, Int.natAbs_neg]; exact h.n, by rw [Rat.neg_den]; exact h.d⟩
theorem mkR_one (neg : Bool) (n : Nat) : mkR neg n 1 = ((if neg then -(n : Int) else (n : Int) : Int) : Rat) := Rat.mkRat_one _
set_option maxHeartbeats 4000000 in
theorem RNeg_any (r : Option Rat) (v : Rat) (w : World) (hr : SmO r) (hv : Hid (-(valO r) = v)) (hT : Tb w) :
    Calls Tryz.prog 12 #[.agg #[.bool (sgO r), .string (nuO r), .string (deO r)]] w fun e w' => e = .returned (.agg #[.bool (sgO (some v)), .string (nuO (some v)), .string (deO (some v))]) ∧ Below w.heap.size w w' := by
  have TB0 := Lib.hid hT
  clear hT
  have Q1 := Lib.hid (B2.made w #[.bool (sgO r), .string (nuO r), .string (deO r)] #[.bool false, .string ⟨#[]⟩, .string ⟨#[]⟩])
  obtain ⟨p, hp⟩ : ∃ p, valO r = p := ⟨_, rfl⟩
  have HR := Lib.hid hr
  have HP := Lib.hid hp
  have SP : Hid (Sm p) := by unfold Hid; rw [← hp]; exact hr
  obtain ⟨c1, c2, c3⟩ := neg_cells p
  have hvp : v = -p := by rw [← hv.out, hp]
  rw [← hvp] at c1 c2 c3
  have C2 := Lib.hid c2
  have C3 := Lib.hid c3
  obtain ⟨x0, x1, x2⟩ := blk3 Q1.out.x
  by_cases hn : p.num = 0
  · have k1 : (nuO (some p)).toList.isEmpty = true := by show (nS p.num.natAbs).toList.isEmpty = true; rw [hn]; exact sEmpty0.a
    have k2 : (nuO (some p)).toList = [] := by show (nS p.num.natAbs).toList = []; rw [hn]; exact sEmpty0.b
    have s1 : sgO (some p) = false := decide_eq_false (by omega)
    have C1 : Hid (sgO (some v) = false) := by unfold Hid; rw [c1, hn]; simp
    clear hr hp hv c1 c2 c3 hn hvp
    rw [C1.out, C2.out, C3.out]
    go_enter Tryz.func12, Tryz.ntmps12
    go_wp2_with fail
    refine (fit_v r p _ HR.out HP (TB0.out.below Q1.out.b)).mono ?_
    rintro e w2 ⟨rfl, hb2⟩
    rw [s1]
    have Q2 := Lib.hid (Q1.out.bel hb2)
    clear hb2 Q1 x0 x1 x2
    obtain ⟨x0, x1, x2⟩ := blk3 Q2.out.x
    obtain ⟨f0, f1, f2⟩ := frz3 Q2.out.x
    obtain ⟨z0, z1, z2⟩ := blk3 Q2.out.y
    obtain ⟨h0, h1, h2⟩ := frz3 Q2.out.y
    have Q3 := Lib.hid (Q2.out.fst (.bool false) (.string (nuO (some p))) (.string (deO (some p))))
    unfold set3 at Q3
    have X3 := Lib.hid (Q3.out.x.set_ 0 (.bool false))
    have Y3 := Lib.hid (Q3.out.y.far (p := ⟨w.heap.size, 0, none⟩) (by simp) (.bool false))
    have B3' := Lib.hid (Q3.out.b.setCell (p := ⟨w.heap.size, 0, none⟩) (Nat.le_refl _) (.bool false))
    have Y4 := Lib.hid (Y3.out.set3 (.bool false) (.string (nuO (some p))) (.string (deO (some p))))
    have B4 := Lib.hid (below_set3 B3'.out (show w.heap.size ≤ w.heap.size + 1 by omega) (.bool false) (.string (nuO (some p))) (.string (deO (some p))))
    unfold set3 at Y4 B4
    go_wp2_with fail
    clear x0 x1 x2 z0 z1 z2 f0 f1 f2 h0 h1 h2
    obtain ⟨z0, z1, z2⟩ := blk3 Y4.out
    exact bodyPost_ret (v := .agg #[.bool false, .string (nuO (some p)), .string (deO (some p))]) (by simp [results, Tryz.results12, go_sem, z0, z1, z2]) rfl ⟨rfl, B4.out⟩
  · have fn := sFull (n := p.num.natAbs) (by omega)
    have k1 : (nuO (some p)).toList.isEmpty = false := fn.a
    have k2 : ¬ (nuO (some p)).toList = [] := fn.b
    by_cases hneg : p.num < 0
    · have s1 : sgO (some p) = true := decide_eq_true hneg
      have C1 : Hid (sgO (some v) = false) := by unfold Hid; rw [c1, s1]; simp
      clear fn hneg
      clear hr hp hv c1 c2 c3 hn hvp
      rw [C1.out, C2.out, C3.out]
      go_enter Tryz.func12, Tryz.ntmps12
      go_wp2_with fail
      refine (fit_v r p _ HR.out HP (TB0.out.below Q1.out.b)).mono ?_
      rintro e w2 ⟨rfl, hb2⟩
      rw [s1]
      have Q2 := Lib.hid (Q1.out.bel hb2)
      clear hb2 Q1 x0 x1 x2
      obtain ⟨x0, x1, x2⟩ := blk3 Q2.out.x
      obtain ⟨f0, f1, f2⟩ := frz3 Q2.out.x
      obtain ⟨z0, z1, z2⟩ := blk3 Q2.out.y
      obtain ⟨h0, h1, h2⟩ := frz3 Q2.out.y
      have Q3 := Lib.hid (Q2.out.fst (.bool true) (.string (nuO (some p))) (.string (deO (some p))))
      unfold set3 at Q3
      have X3 := Lib.hid (Q3.out.x.set_ 0 (.bool false))
      have Y3 := Lib.hid (Q3.out.y.far (p := ⟨w.heap.size, 0, none⟩) (by simp) (.bool false))
      have B3' := Lib.hid (Q3.out.b.setCell (p := ⟨w.heap.size, 0, none⟩) (Nat.le_refl _) (.bool false))
      have Y4 := Lib.hid (Y3.out.set3 (.bool false) (.string (nuO (some p))) (.string (deO (some p))))
      have B4 := Lib.hid (below_set3 B3'.out (show w.heap.size ≤ w.heap.size + 1 by omega) (.bool false) (.string (nuO (some p))) (.string (deO (some p))))
      unfold set3 at Y4 B4
      go_wp2_with fail
      clear x0 x1 x2 z0 z1 z2 f0 f1 f2 h0 h1 h2
      obtain ⟨z0, z1, z2⟩ := blk3 Y4.out
      exact bodyPost_ret (v := .agg #[.bool false, .string (nuO (some p)), .string (deO (some p))]) (by simp [results, Tryz.results12, go_sem, z0, z1, z2]) rfl ⟨rfl, B4.out⟩
    · have s1 : sgO (some p) = false := decide_eq_false hneg
      have C1 : Hid (sgO (some v) = true) := by unfold Hid; rw [c1, s1]; simp [hn]
      clear fn hneg
      clear hr hp hv c1 c2 c3 hn hvp
      rw [C1.out, C2.out, C3.out]
      go_enter Tryz.func12, Tryz.ntmps12
      go_wp2_with fail
      refine (fit_v r p _ HR.out HP (TB0.out.below Q1.out.b)).mono ?_
      rintro e w2 ⟨rfl, hb2⟩
      rw [s1]
      have Q2 := Lib.hid (Q1.out.bel hb2)
      clear hb2 Q1 x0 x1 x2
      obtain ⟨x0, x1, x2⟩ := blk3 Q2.out.x
      obtain ⟨f0, f1, f2⟩ := frz3 Q2.out.x
      obtain ⟨z0, z1, z2⟩ := blk3 Q2.out.y
      obtain ⟨h0, h1, h2⟩ := frz3 Q2.out.y
      have Q3 := Lib.hid (Q2.out.fst (.bool false) (.string (nuO (some p))) (.string (deO (some p))))
      unfold set3 at Q3
      have X3 := Lib.hid (Q3.out.x.set_ 0 (.bool true))
      have Y3 := Lib.hid (Q3.out.y.far (p := ⟨w.heap.size, 0, none⟩) (by simp) (.bool true))
      have B3' := Lib.hid (Q3.out.b.setCell (p := ⟨w.heap.size, 0, none⟩) (Nat.le_refl _) (.bool true))
      have Y4 := Lib.hid (Y3.out.set3 (.bool true) (.string (nuO (some p))) (.string (deO (some p))))
      have B4 := Lib.hid (below_set3 B3'.out (show w.heap.size ≤ w.heap.size + 1 by omega) (.bool true) (.string (nuO (some p))) (.string (deO (some p))))
      unfold set3 at Y4 B4
      go_wp2_with fail
      clear x0 x1 x2 z0 z1 z2 f0 f1 f2 h0 h1 h2
      obtain ⟨z0, z1, z2⟩ := blk3 Y4.out
      exact bodyPost_ret (v := .agg #[.bool true, .string (nuO (some p)), .string (deO (some p))]) (by simp [results, Tryz.results12, go_sem, z0, z1, z2]) rfl ⟨rfl, B4.out⟩

set_option maxHeartbeats 4000000 in
theorem RSub_any (r t : Option Rat) (v : Rat) (w : World) (hr : SmO r) (ht : SmO t) (hv : Hid (valO r - valO t = v)) (hT : Tb w) :
    Calls Tryz.prog 36 #[.agg #[.bool (sgO r), .string (nuO r), .string (deO r)], .agg #[.bool (sgO t), .string (nuO t), .string (deO t)]] w fun e w' => e = .returned (.agg #[.bool (sgO (some v)), .string (nuO (some v)), .string (deO (some v))]) ∧ Below w.heap.size w w' := by
  have TB0 := Lib.hid hT
  clear hT
  have Q3 := Lib.hid (B3.made w #[.bool (sgO r), .string (nuO r), .string (deO r)] #[.bool (sgO t), .string (nuO t), .string (deO t)] #[.bool false, .string ⟨#[]⟩, .string ⟨#[]⟩])
  have HR := Lib.hid hr
  have HT := Lib.hid ht
  have HN : Hid (SmO (some (-(valO t)))) := Sm.neg ht
  obtain ⟨u, hu⟩ : ∃ u, -(valO t) = u := ⟨_, rfl⟩
  rw [hu] at HN
  have HU := Lib.hid hu
  have HV : Hid (valO r + valO (some u) = v) := by
    unfold Hid
    show valO r + u = v
    rw [← hv.out, ← hu, Rat.sub_eq_add_neg]
  clear hr ht hv hu
  go_enter Tryz.func36, Tryz.ntmps36
  go_wp2_with fail
  generalize hw3 : ((w.alloc (.cells #[.bool (sgO r), .string (nuO r), .string (deO r)] 29)).alloc (.cells #[.bool (sgO t), .string (nuO t), .string (deO t)] 29)).alloc (.cells #[.bool false, .string ⟨#[]⟩, .string ⟨#[]⟩] 29) = w3 at Q3 ⊢
  clear hw3
  have x0 := fun s : Ext w3 => s.cell (Q3.out.x.cell 0)
  have x1 := fun s : Ext w3 => s.cell (Q3.out.x.cell 1)
  have x2 := fun s : Ext w3 => s.cell (Q3.out.x.cell 2)
  have y0 := fun s : Ext w3 => s.cell (Q3.out.y.cell 0)
  have y1 := fun s : Ext w3 => s.cell (Q3.out.y.cell 1)
  have y2 := fun s : Ext w3 => s.cell (Q3.out.y.cell 2)
  have TE := fun s : Ext w3 => (TB0.out.below Q3.out.b).below s.h
  refine wp_region_ext_tail 4 (by kernel_rfl) (by kernel_rfl) ?_
  simp only [List.take_succ_cons, List.take_zero, List.drop_succ_cons, List.drop_zero]
  repeat (go_big_quiet_step (fail))
  go_big_quiet_step ((go_at_call 12; refine Calls.ext (RNeg_any t u _ HT.out HU (TE _))))
  repeat (go_big_quiet_step (fail))
  go_big_quiet_step ((go_at_call 15; refine Calls.ext (RAdd_any r (some u) v _ HR.out HN.out HV (TE _))))
  repeat (go_big_quiet_step (fail))
  refine wpQuiet_nil ?_
  clear TE
  intro _ hw'
  obtain ⟨s, rfl⟩ := hw'
  clear x0 x1 x2 y0 y1 y2
  have Q4 := Lib.hid (Q3.out.bel s.h)
  generalize s.to = w4 at Q4 ⊢
  clear s
  obtain ⟨z0, z1, z2⟩ := blk3 Q4.out.z
  obtain ⟨h0, h1, h2⟩ := frz3 Q4.out.z
  have Q5 := Lib.hid (Q4.out.third (.bool (sgO (some v))) (.string (nuO (some v))) (.string (deO (some v))))
  unfold set3 at Q5
  go_wp2_with fail
  clear z0 z1 z2 h0 h1 h2 Q4
  obtain ⟨z0, z1, z2⟩ := blk3 Q5.out.z
  exact bodyPost_ret (v := .agg #[.bool (sgO (some v)), .string (nuO (some v)), .string (deO (some v))]) (by simp [results, Tryz.results36, go_sem, z0, z1, z2]) rfl ⟨rfl, Q5.out.b⟩

set_option maxHeartbeats 4000000 in
theorem RMin_any (r t : Option Rat) (v : Rat) (w : World) (hr : SmO r) (ht : SmO t) (hv : Hid ((if valO r ≤ valO t then valO r else valO t) = v)) (hT : Tb w) :
    Calls Tryz.prog 78 #[.agg #[.bool (sgO r), .string (nuO r), .string (deO r)], .agg #[.bool (sgO t), .string (nuO t), .string (deO t)]] w fun e w' => e = .returned (.agg #[.bool (sgO (some v)), .string (nuO (some v)), .string (deO (some v))]) ∧ Below w.heap.size w w' := by
  have TB0 := Lib.hid hT
  clear hT
  have Q1 := Lib.hid (B3.made w #[.bool (sgO r), .string (nuO r), .string (deO r)] #[.bool (sgO t), .string (nuO t), .string (deO t)] #[.bool false, .string ⟨#[]⟩, .string ⟨#[]⟩])
  have HR := Lib.hid hr
  have HT := Lib.hid ht
  obtain ⟨c, hc⟩ : ∃ c, cmpQ (valO r) (valO t) = c := ⟨_, rfl⟩
  have HC := Lib.hid hc
  have hi : c ≤ 0 ↔ valO r ≤ valO t := by rw [← hc]; exact cmpQ_le
  obtain ⟨x0, x1, x2⟩ := blk3 Q1.out.x
  obtain ⟨y0, y1, y2⟩ := blk3 Q1.out.y
  by_cases hle : c ≤ 0
  · have HV : Hid (valO r = v) := by unfold Hid; rw [← hv.out, if_pos (hi.1 hle)]
    clear hr ht hv hc hi
    go_enter Tryz.func78, Tryz.ntmps78
    go_wp2_with fail
    refine (RCmp_any r t c _ HR.out HT.out HC (TB0.out.below Q1.out.b)).mono ?_
    rintro e w2 ⟨rfl, hb2⟩
    have Q2 := Lib.hid (Q1.out.bel hb2)
    clear hb2 Q1 x0 x1 x2 y0 y1 y2
    obtain ⟨x0, x1, x2⟩ := blk3 Q2.out.x
    go_wp2_with fail
    clear x0 x1 x2
    refine (fit_v r v _ HR.out HV (TB0.out.below Q2.out.b)).mono ?_
    rintro e w5 ⟨rfl, hb5⟩
    have Q5 := Lib.hid (Q2.out.bel hb5)
    clear hb5 Q2
    obtain ⟨z0, z1, z2⟩ := blk3 Q5.out.z
    obtain ⟨h0, h1, h2⟩ := frz3 Q5.out.z
    have Q9 := Lib.hid (Q5.out.third (.bool (sgO (some v))) (.string (nuO (some v))) (.string (deO (some v))))
    unfold set3 at Q9
    go_wp2_with fail
    clear z0 z1 z2 h0 h1 h2 Q5
    obtain ⟨z0, z1, z2⟩ := blk3 Q9.out.z
    exact bodyPost_ret (v := .agg #[.bool (sgO (some v)), .string (nuO (some v)), .string (deO (some v))]) (by simp [results, Tryz.results78, go_sem, z0, z1, z2]) rfl ⟨rfl, Q9.out.b⟩
  · have HV : Hid (valO t = v) := by unfold Hid; rw [← hv.out, if_neg (fun e => hle (hi.2 e))]
    clear hr ht hv hc hi
    go_enter Tryz.func78, Tryz.ntmps78
    go_wp2_with fail
    refine (RCmp_any r t c _ HR.out HT.out HC (TB0.out.below Q1.out.b)).mono ?_
    rintro e w2 ⟨rfl, hb2⟩
    have Q2 := Lib.hid (Q1.out.bel hb2)
    clear hb2 Q1 x0 x1 x2 y0 y1 y2
    obtain ⟨y0, y1, y2⟩ := blk3 Q2.out.y
    go_wp2_with fail
    clear y0 y1 y2
    refine (fit_v t v _ HT.out HV (TB0.out.below Q2.out.b)).mono ?_
    rintro e w5 ⟨rfl, hb5⟩
    have Q5 := Lib.hid (Q2.out.bel hb5)
    clear hb5 Q2
    obtain ⟨z0, z1, z2⟩ := blk3 Q5.out.z
    obtain ⟨h0, h1, h2⟩ := frz3 Q5.out.z
    have Q9 := Lib.hid (Q5.out.third (.bool (sgO (some v))) (.string (nuO (some v))) (.string (deO (some v))))
    unfold set3 at Q9
    go_wp2_with fail
    clear z0 z1 z2 h0 h1 h2 Q5
    obtain ⟨z0, z1, z2⟩ := blk3 Q9.out.z
    exact bodyPost_ret (v := .agg #[.bool (sgO (some v)), .string (nuO (some v)), .string (deO (some v))]) (by simp [results, Tryz.results78, go_sem, z0, z1, z2]) rfl ⟨rfl, Q9.out.b⟩

set_option maxHeartbeats 4000000 in
theorem RMax_any (r t : Option Rat) (v : Rat) (w : World) (hr : SmO r) (ht : SmO t) (hv : Hid ((if valO t ≤ valO r then valO r else valO t) = v)) (hT : Tb w) :
    Calls Tryz.prog 28 #[.agg #[.bool (sgO r), .string (nuO r), .string (deO r)], .agg #[.bool (sgO t), .string (nuO t), .string (deO t)]] w fun e w' => e = .returned (.agg #[.bool (sgO (some v)), .string (nuO (some v)), .string (deO (some v))]) ∧ Below w.heap.size w w' := by
  have TB0 := Lib.hid hT
  clear hT
  have Q1 := Lib.hid (B3.made w #[.bool (sgO r), .string (nuO r), .string (deO r)] #[.bool (sgO t), .string (nuO t), .string (deO t)] #[.bool false, .string ⟨#[]⟩, .string ⟨#[]⟩])
  have HR := Lib.hid hr
  have HT := Lib.hid ht
  obtain ⟨c, hc⟩ : ∃ c, cmpQ (valO r) (valO t) = c := ⟨_, rfl⟩
  have HC := Lib.hid hc
  have hi : 0 ≤ c ↔ valO t ≤ valO r := by rw [← hc]; exact cmpQ_ge
  obtain ⟨x0, x1, x2⟩ := blk3 Q1.out.x
  obtain ⟨y0, y1, y2⟩ := blk3 Q1.out.y
  by_cases hle : 0 ≤ c
  · have HV : Hid (valO r = v) := by unfold Hid; rw [← hv.out, if_pos (hi.1 hle)]
    clear hr ht hv hc hi
    go_enter Tryz.func28, Tryz.ntmps28
    go_wp2_with fail
    refine (RCmp_any r t c _ HR.out HT.out HC (TB0.out.below Q1.out.b)).mono ?_
    rintro e w2 ⟨rfl, hb2⟩
    have Q2 := Lib.hid (Q1.out.bel hb2)
    clear hb2 Q1 x0 x1 x2 y0 y1 y2
    obtain ⟨x0, x1, x2⟩ := blk3 Q2.out.x
    go_wp2_with fail
    clear x0 x1 x2
    refine (fit_v r v _ HR.out HV (TB0.out.below Q2.out.b)).mono ?_
    rintro e w5 ⟨rfl, hb5⟩
    have Q5 := Lib.hid (Q2.out.bel hb5)
    clear hb5 Q2
    obtain ⟨z0, z1, z2⟩ := blk3 Q5.out.z
    obtain ⟨h0, h1, h2⟩ := frz3 Q5.out.z
    have Q9 := Lib.hid (Q5.out.third (.bool (sgO (some v))) (.string (nuO (some v))) (.string (deO (some v))))
    unfold set3 at Q9
    go_wp2_with fail
    clear z0 z1 z2 h0 h1 h2 Q5
    obtain ⟨z0, z1, z2⟩ := blk3 Q9.out.z
    exact bodyPost_ret (v := .agg #[.bool (sgO (some v)), .string (nuO (some v)), .string (deO (some v))]) (by simp [results, Tryz.results28, go_sem, z0, z1, z2]) rfl ⟨rfl, Q9.out.b⟩
  · have HV : Hid (valO t = v) := by unfold Hid; rw [← hv.out, if_neg (fun e => hle (hi.2 e))]
    clear hr ht hv hc hi
    go_enter Tryz.func28, Tryz.ntmps28
    go_wp2_with fail
    refine (RCmp_any r t c _ HR.out HT.out HC (TB0.out.below Q1.out.b)).mono ?_
    rintro e w2 ⟨rfl, hb2⟩
    have Q2 := Lib.hid (Q1.out.bel hb2)
    clear hb2 Q1 x0 x1 x2 y0 y1 y2
    obtain ⟨y0, y1, y2⟩ := blk3 Q2.out.y
    go_wp2_with fail
    clear y0 y1 y2
    refine (fit_v t v _ HT.out HV (TB0.out.below Q2.out.b)).mono ?_
    rintro e w5 ⟨rfl, hb5⟩
    have Q5 := Lib.hid (Q2.out.bel hb5)
    clear hb5 Q2
    obtain ⟨z0, z1, z2⟩ := blk3 Q5.out.z
    obtain ⟨h0, h1, h2⟩ := frz3 Q5.out.z
    have Q9 := Lib.hid (Q5.out.third (.bool (sgO (some v))) (.string (nuO (some v))) (.string (deO (some v))))
    unfold set3 at Q9
    go_wp2_with fail
    clear z0 z1 z2 h0 h1 h2 Q5
    obtain ⟨z0, z1, z2⟩ := blk3 Q9.out.z
    exact bodyPost_ret (v := .agg #[.bool (sgO (some v)), .string (nuO (some v)), .string (deO (some v))]) (by simp [results, Tryz.results28, go_sem, z0, z1, z2]) rfl ⟨rfl, Q9.out.b⟩

set_option maxHeartbeats 4000000 in
theorem RSign_any (r : Option Rat) (v : Int) (w : World) (hr : SmO r) (hv : Hid (cmpQ (valO r) 0 = v)) (hT : Tb w) :
    Calls Tryz.prog 20 #[.agg #[.bool (sgO r), .string (nuO r), .string (deO r)]] w fun e w' => e = .returned (.int .i64 v) ∧ Below w.heap.size w w' := by
  have TB0 := Lib.hid hT
  clear hT
  have X1 := Lib.hid (Blk.new w 29 #[.bool (sgO r), .string (nuO r), .string (deO r)])
  have B1 := Lib.hid ((Below.refl w.heap.size w).alloc (Nat.le_refl _) (.cells #[.bool (sgO r), .string (nuO r), .string (deO r)] 29))
  obtain ⟨p, hp⟩ : ∃ p, valO r = p := ⟨_, rfl⟩
  have HR := Lib.hid hr
  have HP := Lib.hid hp
  have hvp : cmpQ p 0 = v := by rw [← hp]; exact hv.out
  have hz : cmpQ p 0 = if p.num < 0 then -1 else if 0 < p.num then 1 else 0 := by rw [cmpQ_num]; simp
  rw [hz] at hvp
  obtain ⟨x0, x1, x2⟩ := blk3 X1.out
  by_cases hn : p.num = 0
  · have k1 : (nuO (some p)).toList.isEmpty = true := by show (nS p.num.natAbs).toList.isEmpty = true; rw [hn]; exact sEmpty0.a
    have k2 : (nuO (some p)).toList = [] := by show (nS p.num.natAbs).toList = []; rw [hn]; exact sEmpty0.b
    obtain ⟨sg, s1⟩ : ∃ sg, sgO (some p) = sg := ⟨_, rfl⟩
    have hv0 : v = 0 := by rw [← hvp, if_neg (by omega), if_neg (by omega)]
    subst hv0
    clear hr hp hv hn hvp hz
    go_enter Tryz.func20, Tryz.ntmps20
    go_wp2_with fail
    refine (fit_v r p _ HR.out HP (TB0.out.below B1.out)).mono ?_
    rintro e w2 ⟨rfl, hb2⟩
    rw [s1]
    have X2 := Lib.hid (X1.out.below hb2 X1.out.lt)
    have B2' := Lib.hid (B1.out.trans (hb2.mono B1.out.size))
    clear hb2 X1 B1 x0 x1 x2 s1
    obtain ⟨x0, x1, x2⟩ := blk3 X2.out
    obtain ⟨f0, f1, f2⟩ := frz3 X2.out
    have X3 := Lib.hid (X2.out.set3 (.bool sg) (.string (nuO (some p))) (.string (deO (some p))))
    have B3' := Lib.hid (below_set3 B2'.out (Nat.le_refl _) (.bool sg) (.string (nuO (some p))) (.string (deO (some p))))
    unfold set3 at X3 B3'
    go_wp2_with fail
    go_ret
    exact ⟨rfl, B3'.out⟩
  · have fn := sFull (n := p.num.natAbs) (by omega)
    have k1 : (nuO (some p)).toList.isEmpty = false := fn.a
    have k2 : ¬ (nuO (some p)).toList = [] := fn.b
    by_cases hneg : p.num < 0
    · have s1 : sgO (some p) = true := decide_eq_true hneg
      have hv0 : v = -1 := by rw [← hvp, if_pos hneg]
      subst hv0
      clear fn hneg
      clear hr hp hv hn hvp hz
      go_enter Tryz.func20, Tryz.ntmps20
      go_wp2_with fail
      refine (fit_v r p _ HR.out HP (TB0.out.below B1.out)).mono ?_
      rintro e w2 ⟨rfl, hb2⟩
      rw [s1]
      have X2 := Lib.hid (X1.out.below hb2 X1.out.lt)
      have B2' := Lib.hid (B1.out.trans (hb2.mono B1.out.size))
      clear hb2 X1 B1 x0 x1 x2 s1
      obtain ⟨x0, x1, x2⟩ := blk3 X2.out
      obtain ⟨f0, f1, f2⟩ := frz3 X2.out
      have X3 := Lib.hid (X2.out.set3 (.bool true) (.string (nuO (some p))) (.string (deO (some p))))
      have B3' := Lib.hid (below_set3 B2'.out (Nat.le_refl _) (.bool true) (.string (nuO (some p))) (.string (deO (some p))))
      unfold set3 at X3 B3'
      go_wp2_with fail
      go_ret
      exact ⟨rfl, B3'.out⟩
    · have s1 : sgO (some p) = false := decide_eq_false hneg
      have hv0 : v = 1 := by rw [← hvp, if_neg hneg, if_pos (by omega)]
      subst hv0
      clear fn hneg
      clear hr hp hv hn hvp hz
      go_enter Tryz.func20, Tryz.ntmps20
      go_wp2_with fail
      refine (fit_v r p _ HR.out HP (TB0.out.below B1.out)).mono ?_
      rintro e w2 ⟨rfl, hb2⟩
      rw [s1]
      have X2 := Lib.hid (X1.out.below hb2 X1.out.lt)
      have B2' := Lib.hid (B1.out.trans (hb2.mono B1.out.size))
      clear hb2 X1 B1 x0 x1 x2 s1
      obtain ⟨x0, x1, x2⟩ := blk3 X2.out
      obtain ⟨f0, f1, f2⟩ := frz3 X2.out
      have X3 := Lib.hid (X2.out.set3 (.bool false) (.string (nuO (some p))) (.string (deO (some p))))
      have B3' := Lib.hid (below_set3 B2'.out (Nat.le_refl _) (.bool false) (.string (nuO (some p))) (.string (deO (some p))))
      unfold set3 at X3 B3'
      go_wp2_with fail
      go_ret
      exact ⟨rfl, B3'.out⟩

set_option maxHeartbeats 4000000 in
theorem ROf_any (n : Int) (v : Rat) (w : World) (h1 : -1000000 ≤ n) (h2 : n ≤ 1000000) (hv : Hid ((n : Rat) = v)) (hT : Tb w) :
    Calls Tryz.prog 22 #[.int .i64 n] w fun e w' => e = .returned (.agg #[.bool (sgO (some v)), .string (nuO (some v)), .string (deO (some v))]) ∧ Below w.heap.size w w' := by
  have TB0 := Lib.hid hT
  clear hT
  have Z1 := Lib.hid (Blk.new w 29 #[.bool false, .string ⟨#[]⟩, .string ⟨#[]⟩])
  have B1 := Lib.hid ((Below.refl w.heap.size w).alloc (Nat.le_refl _) (.cells #[.bool false, .string ⟨#[]⟩, .string ⟨#[]⟩] 29))
  have ho := nS_one
  by_cases hn : 0 ≤ n
  · obtain ⟨m, rfl⟩ := Int.eq_ofNat_of_zero_le hn
    have HM : Hid (mkR false m 1 = v) := by unfold Hid; rw [mkR_one, ← hv.out]; rfl
    have HO := Lib.hid ho
    clear hv ho hn
    go_enter Tryz.func22, Tryz.ntmps22
    go_wp2_with fail
    refine (natOf_any m _ (by omega)).mono ?_
    rintro e w2 ⟨rfl, hb2⟩
    have Z2 := Lib.hid (Z1.out.below hb2 Z1.out.lt)
    have B2' := Lib.hid (B1.out.trans (hb2.mono B1.out.size))
    clear hb2 Z1 B1
    go_wp2_with fail
    rw [← HO.out]
    have sm8 := size8 (a := m) (by omega)
    have s18 := size8 (a := 1) (by omega)
    refine (made_any false m 1 v _ (by omega) (by omega) (by omega) HM (TB0.out.below B2'.out)).mono ?_
    rintro e w3 ⟨rfl, hb3⟩
    have Z3 := Lib.hid (Z2.out.below hb3 Z2.out.lt)
    have B3' := Lib.hid (B2'.out.trans (hb3.mono B2'.out.size))
    clear hb3 Z2 B2'
    obtain ⟨z0, z1, z2⟩ := blk3 Z3.out
    obtain ⟨f0, f1, f2⟩ := frz3 Z3.out
    have Z5 := Lib.hid (Z3.out.set3 (.bool (sgO (some v))) (.string (nuO (some v))) (.string (deO (some v))))
    have B5 := Lib.hid (below_set3 B3'.out (Nat.le_refl _) (.bool (sgO (some v))) (.string (nuO (some v))) (.string (deO (some v))))
    unfold set3 at Z5 B5
    go_wp2_with fail
    clear z0 z1 z2 f0 f1 f2
    obtain ⟨z0, z1, z2⟩ := blk3 Z5.out
    exact bodyPost_ret (v := .agg #[.bool (sgO (some v)), .string (nuO (some v)), .string (deO (some v))]) (by simp [results, Tryz.results22, go_sem, z0, z1, z2]) rfl ⟨rfl, B5.out⟩
  · obtain ⟨m, hm⟩ : ∃ m : Nat, -(n + 1) = (m : Int) := ⟨(-(n + 1)).toNat, by omega⟩
    have HM : Hid (mkR true (m + 1) 1 = v) := by
      unfold Hid
      rw [mkR_one, ← hv.out, if_pos rfl, show n = -((m + 1 : Nat) : Int) by omega]
    have g1 : -1 - n = (m : Int) := by omega
    have HO := Lib.hid ho
    clear hv ho
    go_enter Tryz.func22, Tryz.ntmps22
    go_wp2_with fail
    refine (natOf_any m _ (by omega)).mono ?_
    rintro e w2 ⟨rfl, hb2⟩
    have Z2 := Lib.hid (Z1.out.below hb2 Z1.out.lt)
    have B2' := Lib.hid (B1.out.trans (hb2.mono B1.out.size))
    clear hb2 Z1 B1
    go_wp2_with fail
    rw [← HO.out]
    have sm8 := size8 (a := m) (by omega)
    have s18 := size8 (a := 1) (by omega)
    have sm9 := size8 (a := m + 1) (by omega)
    refine (AddG m 1 _ (by have := sm8; omega) (by have := s18; omega)).mono ?_
    rintro e w4 ⟨rfl, hb4⟩
    have Z4 := Lib.hid (Z2.out.below hb4 Z2.out.lt)
    have B4 := Lib.hid (B2'.out.trans (hb4.mono B2'.out.size))
    clear hb4 Z2 B2'
    go_wp2_with fail
    (try rw [← HO.out])
    refine (made_any true (m + 1) 1 v _ (by omega) (by omega) (by omega) HM (TB0.out.below B4.out)).mono ?_
    rintro e w3 ⟨rfl, hb3⟩
    have Z3 := Lib.hid (Z4.out.below hb3 Z4.out.lt)
    have B3' := Lib.hid (B4.out.trans (hb3.mono B4.out.size))
    clear hb3 Z4 B4
    obtain ⟨z0, z1, z2⟩ := blk3 Z3.out
    obtain ⟨f0, f1, f2⟩ := frz3 Z3.out
    have Z5 := Lib.hid (Z3.out.set3 (.bool (sgO (some v))) (.string (nuO (some v))) (.string (deO (some v))))
    have B5 := Lib.hid (below_set3 B3'.out (Nat.le_refl _) (.bool (sgO (some v))) (.string (nuO (some v))) (.string (deO (some v))))
    unfold set3 at Z5 B5
    go_wp2_with fail
    clear z0 z1 z2 f0 f1 f2
    obtain ⟨z0, z1, z2⟩ := blk3 Z5.out
    exact bodyPost_ret (v := .agg #[.bool (sgO (some v)), .string (nuO (some v)), .string (deO (some v))]) (by simp [results, Tryz.results22, go_sem, z0, z1, z2]) rfl ⟨rfl, B5.out⟩
end Go.Proofs.YtmfejdikfpckdaaGreatDoor

namespace Go.Proofs.YtmfejdikfpckdaaGreatDoor
open Go.RowKit
set_option linter.unusedVariables false
set_option maxRecDepth 100000

/-- Whether a span is good. -/
def gdS : Option Rat → Option Rat → Bool
  | some p, some q => decide (p ≤ q)
  | _, _ => false
/-- A span that is not good counts as that of 0. -/
def nmS (a b : Option Rat) : Rat × Rat := if gdS a b then (valO a, valO b) else (0, 0)
end Go.Proofs.YtmfejdikfpckdaaGreatDoor

namespace Go.Proofs.YtmfejdikfpckdaaGreatDoor
open Go.RowKit
set_option linter.unusedVariables false

theorem nS_inj {a b : Nat} (h : nS a = nS b) : a = b := digs_inj (by rw [← nS_list, ← nS_list, h])
theorem mkR_le (neg : Bool) {n d : Nat} (hd : 0 < d) : (mkR neg n d).num.natAbs ≤ n ∧ (mkR neg n d).den ≤ d := by
  rcases Nat.eq_zero_or_pos n with h | h
  · subst h
    rw [mkR_zero]
    exact ⟨Nat.le_refl _, hd⟩
  · obtain ⟨c1, c2, c3⟩ := mkR_cells (neg := neg) h hd rfl
    have e1 : (mkR neg n d).num.natAbs = n / Nat.gcd n d := nS_inj c2
    have e2 : (mkR neg n d).den = d / Nat.gcd n d := nS_inj c3
    rw [e1, e2]
    exact ⟨Nat.div_le_self _ _, Nat.div_le_self _ _⟩
theorem pw256 (k : Nat) : 0 < 256 ^ k := Nat.pow_pos (by decide)
theorem mul_pw {a b j k : Nat} (ha : a < 256 ^ j) (hb : b < 256 ^ k) : a * b < 256 ^ (j + k) := by
  rw [Nat.pow_add]
  rcases Nat.eq_zero_or_pos b with h | h
  · subst h; rw [Nat.mul_zero]; exact Nat.mul_pos (pw256 _) (pw256 _)
  · exact Nat.lt_of_lt_of_le (Nat.mul_lt_mul_of_pos_right ha h) (Nat.mul_le_mul_left _ (Nat.le_of_lt hb))
theorem sgnS_lt2 {neg minus : Bool} {a b k : Nat} (ha : a < k) (hb : b < k) : (sgnS neg a minus b).2 < 2 * k := by
  unfold sgnS
  split
  · show a + b < 2 * k; omega
  · split
    · show a - b < 2 * k; omega
    · show b - a < 2 * k; omega
theorem Sz.mul {j k : Nat} {p q : Rat} (hp : Sz j p) (hq : Sz k q) : Sz (j + k) (p * q) := by
  rw [← mul_mkR]
  obtain ⟨h1, h2⟩ := mkR_le (sgO (some p) != sgO (some q)) (n := p.num.natAbs * q.num.natAbs) (Nat.mul_pos p.den_pos q.den_pos)
  exact ⟨Nat.lt_of_le_of_lt h1 (mul_pw hp.n hq.n), Nat.lt_of_le_of_lt h2 (mul_pw hp.d hq.d)⟩
theorem Sz.add {j k : Nat} {p q : Rat} (hp : Sz j p) (hq : Sz k q) : Sz (j + k + 1) (p + q) := by
  obtain ⟨⟨sg, m⟩, hsm⟩ : ∃ z, sgnS (sgO (some p)) (p.num.natAbs * q.den) (sgO (some q)) (q.num.natAbs * p.den) = z := ⟨_, rfl⟩
  rw [← add_mkR hsm]
  obtain ⟨h1, h2⟩ := mkR_le sg (n := m) (Nat.mul_pos p.den_pos q.den_pos)
  have a1 := mul_pw hp.n hq.d
  have a2 := mul_pw hq.n hp.d
  rw [Nat.add_comm k j] at a2
  have a3 := mul_pw hp.d hq.d
  have hm := sgnS_lt2 (neg := sgO (some p)) (minus := sgO (some q)) a1 a2
  rw [hsm] at hm
  have hm' : m < 2 * 256 ^ (j + k) := hm
  have e : 256 ^ (j + k + 1) = 256 ^ (j + k) * 256 := Nat.pow_succ _ _
  exact ⟨by omega, by omega⟩
theorem Sz.sub {j k : Nat} {p q : Rat} (hp : Sz j p) (hq : Sz k q) : Sz (j + k + 1) (p - q) := by
  rw [Rat.sub_eq_add_neg]; exact hp.add hq.neg
theorem Sz.div {j k : Nat} {p q : Rat} (hp : Sz j p) (hq : Sz k q) (h0 : q ≠ 0) : Sz (j + k) (p / q) := by
  have hqn : q.num ≠ 0 := fun e => h0 (Rat.num_eq_zero.1 e)
  rw [← div_mkR hqn]
  obtain ⟨h1, h2⟩ := mkR_le (sgO (some p) != sgO (some q)) (n := p.num.natAbs * q.den) (d := p.den * q.num.natAbs) (Nat.mul_pos p.den_pos (by omega))
  exact ⟨Nat.lt_of_le_of_lt h1 (mul_pw hp.n hq.d), Nat.lt_of_le_of_lt h2 (mul_pw hp.d hq.n)⟩
theorem Sz.int (n : Int) (h : n.natAbs < 256 ^ 3) : Sz 3 (n : Rat) := ⟨h, by show 1 < 256 ^ 3; decide⟩
/-- As it lies in memory. -/
def SzO (k : Nat) (r : Option Rat) : Prop := Sz k (valO r)
theorem SzO.sm {k : Nat} {r : Option Rat} (h : SzO k r) (hk : k ≤ 10000) : SmO r := Sz.sm h hk
theorem Sz.o {k : Nat} {q : Rat} (h : Sz k q) (hk : k ≤ 10000) : SmO (some q) := h.sm hk
end Go.Proofs.YtmfejdikfpckdaaGreatDoor
