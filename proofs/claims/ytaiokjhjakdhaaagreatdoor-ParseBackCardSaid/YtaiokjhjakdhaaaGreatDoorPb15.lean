/- The walks of nat.Cmp, and of nat.Add, Mul, Div, Gcd, common at short numbers. · The walks of nat.words, less, text, Sub. · The walks of nat.less and Sub. · The walks of nat.Add and Mul for numbers of any length. Printed by gen/nume.py. · The walk of nat.Mul for numbers of any length. Printed by gen/numf.py. · The walks of nat.text at the first words of a row, and of nat.Div by one word. Printed by gen/numg.py. · The walks of nat.left, takeAway, putBack. Printed by gen/numh.py. · The walks of nat.takeAway and putBack. Printed by gen/numi.py. -/
import Derived.Test.YtaiokjhjakdhaaaGreatDoorPb10
import Derived.Test.YtaiokjhjakdhaaaGreatDoorPb1
import Derived.Test.YtaiokjhjakdhaaaGreatDoorPb12
import Derived.BigRegion
import Derived.RegionTactic
import Derived.Lib.ItoaNum
namespace Go.Proofs.YtaiokjhjakdhaaaGreatDoor
open Go.RowKit
set_option linter.unusedVariables false
set_option maxRecDepth 100000

def cmpN (a b : Nat) : Int := if a < b then -1 else if b < a then 1 else 0
theorem shN_cons (x : UInt8) (l : List UInt8) : shN (x :: l) = x.toNat * 256 ^ l.length + shN l := by
  have key : ∀ (l : List UInt8) (n : Nat), l.foldl (fun n b => n * 256 + b.toNat) n = n * 256 ^ l.length + shN l := by
    intro l
    induction l with
    | nil => intro n; simp [shN]
    | cons y l ih =>
      intro n
      show List.foldl _ (n * 256 + y.toNat) l = _
      rw [ih, show shN (y :: l) = List.foldl (fun n b => n * 256 + b.toNat) (0 * 256 + y.toNat) l from rfl, ih, List.length_cons, Nat.pow_succ, Nat.add_mul, Nat.mul_assoc, Nat.mul_comm 256, Nat.zero_mul, Nat.zero_add]
      omega
  show List.foldl _ (0 * 256 + x.toNat) l = _
  rw [key]; simp
theorem shN_lt (l : List UInt8) : shN l < 256 ^ l.length := by
  have := shN_take_lt l l.length
  rwa [List.take_length] at this
theorem cmpB_len : ∀ (l m : List UInt8), l.length = m.length → Lib.compareBytes l m = cmpN (shN l) (shN m)
  | [], [], _ => by simp [Lib.compareBytes, cmpN, shN]
  | x :: l, y :: m, h => by
    have hl : l.length = m.length := by simpa using h
    have ih := cmpB_len l m hl
    have h1 := shN_lt l
    have h2 := shN_lt m
    rw [shN_cons, shN_cons, ← hl]
    rw [← hl] at h2
    generalize 256 ^ l.length = P at *
    simp only [Lib.compareBytes]
    by_cases hxy : x < y
    · rw [if_pos hxy]
      have : x.toNat < y.toNat := UInt8.lt_iff_toNat_lt.1 hxy
      have h3 : (x.toNat + 1) * P ≤ y.toNat * P := Nat.mul_le_mul_right P this
      rw [Nat.add_mul] at h3
      unfold cmpN; rw [if_pos (by omega)]
    · rw [if_neg hxy]
      by_cases hyx : y < x
      · rw [if_pos hyx]
        have : y.toNat < x.toNat := UInt8.lt_iff_toNat_lt.1 hyx
        have h3 : (y.toNat + 1) * P ≤ x.toNat * P := Nat.mul_le_mul_right P this
        rw [Nat.add_mul] at h3
        unfold cmpN; rw [if_neg (by omega), if_pos (by omega)]
      · rw [if_neg hyx, ih]
        have e : x.toNat = y.toNat := by
          have a1 : ¬ x.toNat < y.toNat := fun h => hxy (UInt8.lt_iff_toNat_lt.2 h)
          have a2 : ¬ y.toNat < x.toNat := fun h => hyx (UInt8.lt_iff_toNat_lt.2 h)
          omega
        rw [e]
        have e1 : (y.toNat * P + shN l < y.toNat * P + shN m) = (shN l < shN m) := propext (by omega)
        have e2 : (y.toNat * P + shN m < y.toNat * P + shN l) = (shN m < shN l) := propext (by omega)
        simp only [cmpN, e1, e2]
theorem cmpB_digs {a b : Nat} (h : (digs a).length = (digs b).length) : Lib.compareBytes (digs a) (digs b) = cmpN a b := by
  rw [cmpB_len _ _ h, shN_digs, shN_digs]
theorem len_lt {a b : Nat} (h : (digs a).length < (digs b).length) : a < b := by
  rcases Nat.lt_or_ge a b with h1 | h1
  · exact h1
  · have := digs_len_mono h1; omega
theorem nS_empty {n : Nat} : (nS n).size = 0 ↔ n = 0 := by
  rw [nS_size]
  constructor
  · intro h
    have := digs_low (n := n) (k := 0) (by omega)
    simpa using this
  · intro h; rw [h, digs_zero]; rfl

set_option maxHeartbeats 1000000 in
theorem Cmp_any (a b : Nat) (r : Int) (w : World) (ha : (nS a).size ≤ 100000) (hb : (nS b).size ≤ 100000) (hr : Hid (cmpN a b = r)) :
    Calls Tryz.prog 81 #[.string (nS a), .string (nS b)] w fun e w' => e = .returned (.int .i64 r) ∧ w = w' := by
  have HA := Lib.hid ha
  have HB := Lib.hid hb
  clear ha hb
  by_cases h1 : (nS a).size < (nS b).size
  · have hlt : r = -1 := by rw [← hr.out, cmpN, if_pos (len_lt (by rw [← nS_size, ← nS_size]; exact h1))]
    subst hlt
    go_enter Tryz.func81, Tryz.ntmps81
    go_wp2_with fail
    refine (trim_nS a _ HA.out).mono ?_
    rintro e w' ⟨rfl, rfl⟩
    go_wp2_with fail
    refine (trim_nS b _ HB.out).mono ?_
    rintro e w' ⟨rfl, rfl⟩
    go_wp2_with fail
    go_ret
    exact ⟨rfl, rfl⟩
  · by_cases h2 : (nS b).size < (nS a).size
    · have hlt : r = 1 := by
        have := len_lt (a := b) (b := a) (by rw [← nS_size, ← nS_size]; exact h2)
        rw [← hr.out, cmpN, if_neg (by omega), if_pos this]
      subst hlt
      go_enter Tryz.func81, Tryz.ntmps81
      go_wp2_with fail
      refine (trim_nS a _ HA.out).mono ?_
      rintro e w' ⟨rfl, rfl⟩
      go_wp2_with fail
      refine (trim_nS b _ HB.out).mono ?_
      rintro e w' ⟨rfl, rfl⟩
      go_wp2_with fail
      go_ret
      exact ⟨rfl, rfl⟩
    · have hE : Hid (Lib.compareBytes (nS a).data.toList (nS b).data.toList = r) := by
        unfold Hid
        rw [nS_list, nS_list, cmpB_digs (by rw [← nS_size, ← nS_size]; omega)]
        exact hr.out
      go_enter Tryz.func81, Tryz.ntmps81
      go_wp2_with fail
      refine (trim_nS a _ HA.out).mono ?_
      rintro e w' ⟨rfl, rfl⟩
      go_wp2_with fail
      refine (trim_nS b _ HB.out).mono ?_
      rintro e w' ⟨rfl, rfl⟩
      go_wp2_with fail
      refine (Tryz.strings_Compare (nS a) (nS b) _).mono ?_
      rintro e w' ⟨rfl, rfl⟩
      rw [hE.out]
      go_wp2_with fail
      go_ret
      exact ⟨rfl, rfl⟩

/-! Short numbers -/
theorem size8 {a : Nat} (h : a < 18446744073709551616) : (nS a).size ≤ 8 := by rw [nS_size]; exact digs_len (k := 8) h
set_option maxHeartbeats 1000000 in
theorem Mul_any (a b : Nat) (w : World) (ha : a < 4294967296) (hb : b < 4294967296) :
    Calls Tryz.prog 124 #[.string (nS a), .string (nS b)] w fun e w' => e = .returned (.string (nS (a * b))) ∧ Below w.heap.size w w' := by
  have sa : (nS a).size ≤ 4 := by rw [nS_size]; exact digs_len (k := 4) ha
  have sb : (nS b).size ≤ 4 := by rw [nS_size]; exact digs_len (k := 4) hb
  have HA : Hid ((nS a).size ≤ 100000) := Nat.le_trans sa (by decide)
  have HB : Hid ((nS b).size ≤ 100000) := Nat.le_trans sb (by decide)
  have hm : a * b < 18446744073709551616 := Nat.lt_of_le_of_lt (Nat.mul_le_mul (show a ≤ 4294967295 by omega) (show b ≤ 4294967295 by omega)) (by decide)
  have hw : IntKind.u64.wrap ((a : Int) * b) = ((a * b : Nat) : Int) := by
    rw [← Int.natCast_mul, IntWalk.u64_in _ (by omega)]
  have HM := Lib.hid hm
  clear hm
  go_enter Tryz.func124, Tryz.ntmps124
  go_wp2_with fail
  refine (trim_nS a _ HA.out).mono ?_
  rintro e w' ⟨rfl, rfl⟩
  go_wp2_with fail
  refine (trim_nS b _ HB.out).mono ?_
  rintro e w' ⟨rfl, rfl⟩
  go_wp2_with fail
  refine (short_nS a _ (by omega)).mono ?_
  rintro e w' ⟨rfl, rfl⟩
  go_wp2_with fail
  refine (short_nS b _ (by omega)).mono ?_
  rintro e w' ⟨rfl, rfl⟩
  go_wp2_with fail
  refine (fromShort_any (a * b) _ HM.out).mono ?_
  rintro e w' ⟨rfl, hb2⟩
  have B2 := Lib.hid hb2
  clear hb2
  go_wp2_with fail
  go_ret
  exact ⟨rfl, B2.out⟩

theorem ba_loop (s : ByteArray) : ∀ (k i : Nat) (r : List UInt8), s.size = i + k → ByteArray.toList.loop s i r = r.reverse ++ s.data.toList.drop i
  | 0, i, r, h => by
    rw [ByteArray.toList.loop, if_neg (by omega), List.drop_eq_nil_of_le (by rw [← ba_size]; omega), List.append_nil]
  | k + 1, i, r, h => by
    rw [ByteArray.toList.loop, if_pos (by omega), ba_loop s k (i + 1) _ (by omega), List.reverse_cons, List.append_assoc]
    congr 1
    have hi : i < s.data.toList.length := by rw [← ba_size]; omega
    rw [List.drop_eq_getElem_cons hi]
    congr 1
    have : s.get! i = s.data[i]! := rfl
    rw [this, getElem!_pos s.data i (by simpa using hi)]
    rfl
theorem ba_toList (s : ByteArray) : s.toList = s.data.toList := by
  unfold ByteArray.toList
  rw [ba_loop s s.size 0 [] (by omega)]
  simp
theorem nS_ne {n : Nat} (h : 0 < n) : (nS n).toList.isEmpty = false := by
  obtain ⟨b, t, h1, _⟩ := digs_head h
  rw [ba_toList, nS_list, h1]; rfl
theorem nS_zero : (nS 0).toList.isEmpty = true := by rw [ba_toList, nS_list, digs_zero]; rfl
theorem nS_0 : nS 0 = ⟨#[]⟩ := by unfold nS; rw [digs_zero]

set_option maxHeartbeats 1000000 in
theorem Div_any (a b : Nat) (w : World) (ha : a < 18446744073709551616) (hb : b < 18446744073709551616) (hb0 : 0 < b) :
    Calls Tryz.prog 101 #[.string (nS a), .string (nS b)] w fun e w' => e = .returned (.tuple #[.string (nS (a / b)), .string (nS (a % b)), .int .i64 0]) ∧ Below w.heap.size w w' := by
  have sa := size8 ha
  have sb := size8 hb
  have HA : Hid ((nS a).size ≤ 100000) := Nat.le_trans sa (by decide)
  have HB : Hid ((nS b).size ≤ 100000) := Nat.le_trans sb (by decide)
  have hne := nS_ne hb0
  have hbz : ((b : Int) == 0) = false := by rw [beq_eq_false_iff_ne]; omega
  have q1 : a / b < 18446744073709551616 := Nat.lt_of_le_of_lt (Nat.div_le_self a b) ha
  have q2 : a % b < 18446744073709551616 := Nat.lt_of_le_of_lt (Nat.mod_le a b) ha
  have hq : IntKind.u64.wrap ((a : Int) / b) = ((a / b : Nat) : Int) := by
    rw [← Int.natCast_ediv]; exact IntWalk.u64_in _ ⟨Int.natCast_nonneg _, by generalize a / b = z at *; omega⟩
  have hr : IntKind.u64.wrap ((a : Int) % b) = ((a % b : Nat) : Int) := by
    rw [← Int.natCast_emod]; exact IntWalk.u64_in _ ⟨Int.natCast_nonneg _, by generalize a % b = z at *; omega⟩
  have hr2 : (a : Int) % b = ((a % b : Nat) : Int) := by rw [← Int.natCast_emod]
  have Q1 := Lib.hid q1
  have Q2 := Lib.hid q2
  have HR2 := Lib.hid hr2
  have HRR := Lib.hid hr
  clear q1 q2 hr2 hr
  go_enter Tryz.func101, Tryz.ntmps101
  go_wp2_with fail
  refine (trim_nS a _ HA.out).mono ?_
  rintro e w' ⟨rfl, rfl⟩
  go_wp2_with fail
  refine (trim_nS b _ HB.out).mono ?_
  rintro e w' ⟨rfl, rfl⟩
  go_wp2_with fail
  refine (short_nS a _ (by omega)).mono ?_
  rintro e w' ⟨rfl, rfl⟩
  go_wp2_with fail
  refine (short_nS b _ (by omega)).mono ?_
  rintro e w' ⟨rfl, rfl⟩
  go_wp2_with fail
  refine (fromShort_any (a / b) _ Q1.out).mono ?_
  rintro e w2 ⟨rfl, hb2⟩
  have B2 := Lib.hid hb2
  clear hb2 hq
  go_wp2_with fail
  refine (short_nS a _ (by omega)).mono ?_
  rintro e w' ⟨rfl, rfl⟩
  go_wp2_with fail
  refine (short_nS b _ (by omega)).mono ?_
  rintro e w' ⟨rfl, rfl⟩
  go_wp2_with fail
  (try rw [HRR.out])
  (try rw [HR2.out])
  refine (fromShort_any (a % b) _ Q2.out).mono ?_
  rintro e w3 ⟨rfl, hb3⟩
  have B3 := Lib.hid (B2.out.trans (hb3.mono B2.out.size))
  clear hb3
  go_wp2_with fail
  go_ret3
  exact ⟨rfl, B3.out⟩

theorem gcd_step (x y : Nat) : Nat.gcd x y = Nat.gcd y (x % y) := by rw [Nat.gcd_comm x y, Nat.gcd_rec y x, Nat.gcd_comm]
set_option maxHeartbeats 1000000 in
theorem common_any (x y : Nat) (g : Nat) (w : World) (hx : x < 18446744073709551616) (hy : y < 18446744073709551616) (hg : Hid (Nat.gcd x y = g)) :
    Calls Tryz.prog 98 #[.int .u64 x, .int .u64 y] w fun e w' => e = .returned (.int .u64 g) ∧ ∃ q, w' = w.drewN q := by
  go_enter Tryz.func98, Tryz.ntmps98
  go_wp2
  go_loopw [0, 1] (fun a b wr => ∃ u v : Nat, a = .int .u64 u ∧ b = .int .u64 v ∧ u < 18446744073709551616 ∧ v < 18446744073709551616 ∧ Hid (Nat.gcd u v = g) ∧ ∃ q, wr = w.drewN q) (fun _ b _ => (intOf b).toNat)
  case atStart => exact ⟨x, y, rfl, rfl, hx, hy, hg, 0, rfl⟩
  case round =>
    clear hx hy hg
    obtain ⟨u, v, rfl, rfl, hu, hv, hg, q, rfl⟩ := hrel
    rcases Nat.eq_zero_or_pos v with h0 | h0
    · subst h0
      have hgu : u = g := by rw [← hg.out, Nat.gcd_zero_right]
      subst hgu
      go_wp2
      go_ret
      exact ⟨rfl, q, rfl⟩
    · have hvz : ((v : Int) == 0) = false := by rw [beq_eq_false_iff_ne]; omega
      have hr : (u : Int) % v = ((u % v : Nat) : Int) := by rw [← Int.natCast_emod]
      have hlt := Nat.mod_lt u h0
      have HG2 : Hid (Nat.gcd v (u % v) = g) := by unfold Hid; rw [← gcd_step]; exact hg.out
      have HR := Lib.hid hr
      clear hr
      go_wp2
      go_quiet (fail)
      go_wp2
      go_roundw
      case rel => exact ⟨v, u % v, rfl, by rw [HR.out], hv, by omega, HG2, q + nq, by simp only [World.drewN_drewN]⟩
      case measure => simp [intOf]; omega

theorem cat_nil (s : ByteArray) : s ++ (⟨#[]⟩ : ByteArray) = s := ba_ext (by simp)
theorem nil_cat (s : ByteArray) : (⟨#[]⟩ : ByteArray) ++ s = s := ba_ext (by simp)
set_option maxHeartbeats 1000000 in
theorem natOf_any (n : Nat) (w : World) (hn : n ≤ 9223372036854775807) :
    Calls Tryz.prog 82 #[.int .i64 n] w fun e w' => e = .returned (.string (nS n)) ∧ Below w.heap.size w w' := by
  rcases Nat.eq_zero_or_pos n with h0 | h0
  · subst h0
    have HN := Lib.hid nS_0
    go_enter Tryz.func82, Tryz.ntmps82
    go_wp2_with fail
    go_ret
    exact ⟨congrArg (fun s => Ending.returned (.string s)) HN.out.symm, Below.refl _ _⟩
  · go_enter Tryz.func82, Tryz.ntmps82
    go_wp2_with fail
    refine (fromShort_any n _ (by omega)).mono ?_
    rintro e w2 ⟨rfl, hb2⟩
    have B2 := Lib.hid hb2
    clear hb2
    go_wp2_with fail
    go_ret
    exact ⟨rfl, B2.out⟩
end Go.Proofs.YtaiokjhjakdhaaaGreatDoor

namespace Go.Proofs.YtaiokjhjakdhaaaGreatDoor
open Go.RowKit
set_option linter.unusedVariables false
set_option maxRecDepth 100000

theorem info_u32 : (Tryz.prog.info? 150).map (fun i => (i.zero, i.size, i.bytes)) = some (some (.int .u32 0), 1, 4) := by kernel_rfl
/-! Digits in base 2^32 -/
/-- The digits of n % 256^i. -/
def wPart (m n i : Nat) : List Nat := (List.range m).map fun j => n % 256 ^ i / 256 ^ (4 * j) % 4294967296
def wDig (m n : Nat) : List Nat := (List.range m).map fun j => n / 4294967296 ^ j % 4294967296
def wC (l : List Nat) : Array Value := (l.map fun x : Nat => Value.int .u32 (x : Int)).toArray
theorem wC_at {l : List Nat} {j x : Nat} (h : l[j]? = some x) : (wC l)[j]? = some (.int .u32 x) := by simp [wC, h]
theorem wC_set (l : List Nat) (j x : Nat) : (wC l).setIfInBounds j (.int .u32 x) = wC (l.set j x) := by
  apply Array.ext'
  simp [wC, List.map_set]
theorem wPart_zero (m n : Nat) : wPart m n 0 = List.replicate m 0 := by
  unfold wPart
  apply List.ext_getElem?
  intro j
  simp only [Nat.pow_zero, Nat.mod_one, Nat.zero_div, Nat.zero_mod, List.getElem?_map, List.getElem?_replicate]
  by_cases h : j < m
  · rw [if_pos h, List.getElem?_range h]; rfl
  · rw [if_neg h, List.getElem?_eq_none (by simp; omega)]; rfl
theorem wPart_at {m n i j : Nat} (h : j < m) : (wPart m n i)[j]? = some (n % 256 ^ i / 256 ^ (4 * j) % 4294967296) := by
  unfold wPart
  rw [List.getElem?_map, List.getElem?_range h]; rfl
theorem mod_div_mul (n A B : Nat) : n % (A * B) / A = n / A % B := Nat.mod_mul_right_div_self n A B
theorem wPart_step {m n i : Nat} (hi : i / 4 < m) :
    ∃ x b t : Nat, (wPart m n i)[i / 4]? = some x ∧ b = n / 256 ^ i % 256 ∧ t = i % 4 ∧ x < 256 ^ t ∧ wPart m n (i + 1) = (wPart m n i).set (i / 4) (x + b * 256 ^ t) := by
  obtain ⟨q, hq⟩ : ∃ q, q = n / 256 ^ (4 * (i / 4)) := ⟨_, rfl⟩
  have hi4 : i = 4 * (i / 4) + i % 4 := by omega
  have e1 : ∀ t, n % 256 ^ (4 * (i / 4) + t) / 256 ^ (4 * (i / 4)) = q % 256 ^ t := fun t => by rw [Nat.pow_add, mod_div_mul, hq]
  have e2 : n / 256 ^ i % 256 = q / 256 ^ (i % 4) % 256 := by
    conv => lhs; rw [hi4, Nat.pow_add, ← Nat.div_div_eq_div_mul, ← hq]
  have ht : i % 4 < 4 := Nat.mod_lt _ (by decide)
  have hw : n % 256 ^ i / 256 ^ (4 * (i / 4)) = q % 256 ^ (i % 4) := by
    have := e1 (i % 4); rw [← hi4] at this; exact this
  have hw2 : n % 256 ^ (i + 1) / 256 ^ (4 * (i / 4)) = q % 256 ^ (i % 4 + 1) := by
    have := e1 (i % 4 + 1); rw [← Nat.add_assoc, ← hi4] at this; exact this
  have hlt : q % 256 ^ (i % 4) < 256 ^ (i % 4) := Nat.mod_lt _ (Nat.pow_pos (by decide))
  have hx : n % 256 ^ i / 256 ^ (4 * (i / 4)) % 4294967296 = q % 256 ^ (i % 4) := by
    rw [hw]; exact Nat.mod_eq_of_lt (Nat.lt_of_lt_of_le hlt (show 256 ^ (i % 4) ≤ 256 ^ 4 from Nat.pow_le_pow_right (by decide) (by omega)))
  have hlt2 : q % 256 ^ (i % 4 + 1) < 256 ^ (i % 4 + 1) := Nat.mod_lt _ (Nat.pow_pos (by decide))
  have hx2 : n % 256 ^ (i + 1) / 256 ^ (4 * (i / 4)) % 4294967296 = q % 256 ^ (i % 4) + q / 256 ^ (i % 4) % 256 * 256 ^ (i % 4) := by
    rw [hw2, Nat.mod_eq_of_lt (Nat.lt_of_lt_of_le hlt2 (show 256 ^ (i % 4 + 1) ≤ 256 ^ 4 from Nat.pow_le_pow_right (by decide) (by omega))), Nat.pow_succ, Nat.mod_mul, Nat.mul_comm (256 ^ (i % 4))]
  refine ⟨q % 256 ^ (i % 4), _, _, ?_, rfl, rfl, hlt, ?_⟩
  · rw [wPart_at hi, hx]
  · rw [e2]
    apply List.ext_getElem?
    intro j
    rw [List.getElem?_set]
    by_cases hj : i / 4 = j
    · subst hj
      rw [if_pos rfl, wPart_at hi, hx2, if_pos (by simp [wPart, hi])]
    · rw [if_neg hj]
      by_cases hjm : j < m
      · rw [wPart_at hjm, wPart_at hjm]
        congr 1
        rcases Nat.lt_or_ge j (i / 4) with h | h
        · have f : ∀ r, n % 256 ^ (4 * j + (4 + r)) / 256 ^ (4 * j) % 4294967296 = n / 256 ^ (4 * j) % 4294967296 := fun r => by
            rw [Nat.pow_add, mod_div_mul, Nat.pow_add]
            exact Nat.mod_mul_right_mod _ _ _
          have f1 := f (i - 4 * j - 4)
          have f2 := f (i + 1 - 4 * j - 4)
          rw [show 4 * j + (4 + (i - 4 * j - 4)) = i by omega] at f1
          rw [show 4 * j + (4 + (i + 1 - 4 * j - 4)) = i + 1 by omega] at f2
          rw [f1, f2]
        · have z : ∀ k, k ≤ 4 * j → n % 256 ^ k / 256 ^ (4 * j) = 0 := fun k hk =>
            Nat.div_eq_of_lt (Nat.lt_of_lt_of_le (Nat.mod_lt _ (Nat.pow_pos (by decide))) (Nat.pow_le_pow_right (by decide) hk))
          rw [z i (by omega), z (i + 1) (by omega)]
      · rw [List.getElem?_eq_none (by simp [wPart]; omega), List.getElem?_eq_none (by simp [wPart]; omega)]
theorem pow_big (j : Nat) : 256 ^ (4 * j) = 4294967296 ^ j := by rw [Nat.pow_mul]
theorem wPart_all {m n i : Nat} (h : n < 256 ^ i) : wPart m n i = wDig m n := by
  unfold wPart wDig
  refine List.map_congr_left fun j _ => ?_
  rw [Nat.mod_eq_of_lt h, pow_big]
theorem digs_byte {n k : Nat} (h : k < (digs n).length) : (digs n)[(digs n).length - 1 - k]? = some (UInt8.ofNat (n / 256 ^ k % 256)) := by
  induction k generalizing n with
  | zero =>
    rcases Nat.eq_zero_or_pos n with h0 | h0
    · subst h0; simp [digs_zero] at h
    · rw [digs_pos h0, List.length_append]
      simp
  | succ k ih =>
    rcases Nat.eq_zero_or_pos n with h0 | h0
    · subst h0; simp [digs_zero] at h
    · rw [digs_pos h0] at h ⊢
      rw [List.length_append] at h ⊢
      have h1 : k < (digs (n / 256)).length := by simpa using h
      have := ih (n := n / 256) h1
      rw [List.getElem?_append_left (by simp; omega)]
      rw [show (digs (n / 256)).length + [UInt8.ofNat (n % 256)].length - 1 - (k + 1) = (digs (n / 256)).length - 1 - k by simp; omega, this, Nat.pow_succ, Nat.mul_comm, ← Nat.div_div_eq_div_mul]
theorem or_shift (x b t : Nat) (hx : x < 256 ^ t) : x ||| b * 256 ^ t = x + b * 256 ^ t := by
  have := Nat.shiftLeft_add_eq_or_of_lt (b := x) (i := 8 * t) (by rw [Nat.pow_mul]; exact hx) b
  rw [Nat.shiftLeft_eq, Nat.pow_mul] at this
  rw [Nat.or_comm, ← this, Nat.add_comm]

theorem or_word (x b t : Nat) (V : Int) (hx : x < 256 ^ t) (hb : b < 256) (ht : t < 4) (hV : V = ((b * 256 ^ t : Nat) : Int)) : bits .or .u32 (x : Int) V = ((x + b * 256 ^ t : Nat) : Int) := by
  have h1 : 256 ^ t ≤ 256 ^ 3 := Nat.pow_le_pow_right (by decide) (by omega)
  have h2 : b * 256 ^ t ≤ 255 * 256 ^ 3 := Nat.mul_le_mul (by omega) h1
  rw [hV, u32_or_nat x (b * 256 ^ t) (by omega) (by omega), or_shift x b t hx]
theorem words_put {wr : World} {g m n k j x b t : Nat} {V : Int} (X : Blk wr g 150 (wC (wPart m n k))) (hst : wPart m n (k + 1) = (wPart m n k).set j (x + b * 256 ^ t)) (hor : bits .or .u32 (x : Int) V = ((x + b * 256 ^ t : Nat) : Int)) :
    Blk (wr.setCell ⟨g, j, none⟩ (.int .u32 (bits .or .u32 (x : Int) V))).drew g 150 (wC (wPart m n (k + 1))) := by
  rw [hor, hst, ← wC_set]
  exact (X.set_ j _).drew

set_option maxHeartbeats 2000000 in
theorem words_any (n : Nat) (w : World) (hn : (nS n).size ≤ 100000) :
    Calls Tryz.prog 74 #[.string (nS n)] w fun e w' => ∃ g, e = .returned (.slice (some ⟨g, 0, none⟩) (((nS n).size + 3) / 4) (((nS n).size + 3) / 4)) ∧ w.heap.size ≤ g ∧ Blk w' g 150 (wC (wDig (((nS n).size + 3) / 4) n)) ∧ Below w.heap.size w w' := by
  obtain ⟨m, hm⟩ : ∃ m, m = ((nS n).size + 3) / 4 := ⟨_, rfl⟩
  have hm1 : m ≤ 30000 := by omega
  have hm2 : (nS n).size ≤ 4 * m := by omega
  rw [← hm]
  have hmi : (((nS n).size : Int) + 3) / 4 = (m : Int) := by omega
  have HM := Lib.hid hm
  clear hm
  have hmk := run_make_row' (P := Tryz.prog) 146 150 (.int .u32 0) 4 Tryz.underlying146 info_u32 rfl .i64 .i64 m (by omega) (by omega)
  go_enter Tryz.func74, Tryz.ntmps74
  go_wp2_with fail
  refine (trim_nS n _ hn).mono ?_
  rintro e w' ⟨rfl, rfl⟩
  go_wp2_with fail
  have X0 : Hid (Blk (w.alloc (.cells (madeCells #[.int .u32 0] m) 150)) w.heap.size 150 (wC (wPart m n 0))) := by
    have e : madeCells #[.int .u32 0] m = wC (wPart m n 0) := by
      rw [wPart_zero]
      apply Array.ext
      · simp [size_madeCells, wC]
      · intro i h1 h2
        simp [madeCells, Nat.mod_one, wC]
    unfold Hid
    rw [← e]
    exact Blk.new _ _ _
  have B0 := Lib.hid ((Below.refl w.heap.size w).alloc (Nat.le_refl _) (.cells (madeCells #[.int .u32 0] m) 150))
  clear hmk hmi
  go_loopw [15] (fun i wr => ∃ k : Nat, i = .int .i64 k ∧ k ≤ (nS n).size ∧ Hid (Blk wr w.heap.size 150 (wC (wPart m n k))) ∧ Hid (Below w.heap.size w wr)) (fun i _ => (nS n).size - (intOf i).toNat)
  case atStart => exact ⟨0, rfl, by omega, X0, B0⟩
  case round =>
    clear X0 B0
    obtain ⟨k, rfl, hk, X, B⟩ := hrel
    by_cases hlt : k < (nS n).size
    · obtain ⟨x, b, t, hx, hb, ht, hxt, hst⟩ := wPart_step (m := m) (n := n) (i := k) (by omega)
      obtain ⟨j, hj⟩ : ∃ j, j = k / 4 := ⟨_, rfl⟩
      obtain ⟨p, hp⟩ : ∃ p, p = (nS n).size - 1 - k := ⟨_, rfl⟩
      have hpl : p < (nS n).size := by omega
      have hbv : (nS n)[p].toNat = b := by
        have h1 := digs_byte (n := n) (k := k) (by rw [← nS_size]; exact hlt)
        rw [← nS_size, ← hp] at h1
        have h2 : (nS n).data.toList[p]? = some (nS n)[p] := by rw [List.getElem?_eq_getElem (by rw [← ba_size]; exact hpl)]; rfl
        rw [nS_list, h1] at h2
        injection h2 with h2
        rw [← h2, u8_nat, hb]
      have hbl : b < 256 := by rw [hb]; exact Nat.mod_lt _ (by decide)
      rw [← hj] at hx hst
      have e1 : (k : Int) / 4 = (j : Int) := by omega
      have e2 : (k : Int) % 4 = (t : Int) := by omega
      have e3 : ((nS n).size : Int) - 1 - k = (p : Int) := by omega
      have hjm : j < m := by omega
      have t4 : t < 4 := by omega
      have cx : wr.cell? ⟨w.heap.size, j, none⟩ = some (.int .u32 x) := by rw [X.out.cell]; exact wC_at hx
      have fx := X.out.frozen j
      have HST := Lib.hid hst
      have HX := Lib.hid hx
      clear hx hb ht hst hj hp
      rcases (show t = 0 ∨ t = 1 ∨ t = 2 ∨ t = 3 by omega) with rfl | rfl | rfl | rfl
      · have X2 := Lib.hid (words_put (V := (b : Int)) X.out HST.out (or_word x b 0 _ hxt hbl (by omega) (by simp)))
        have B2 := Lib.hid ((B.out.setCell (p := ⟨w.heap.size, j, none⟩) (Nat.le_refl _) (.int .u32 (bits .or .u32 (x : Int) (b : Int)))).drew)
        go_wp2_with fail
        go_region
        go_wp2_with fail
        go_roundw
        case rel => exact ⟨k + 1, by go_num, by omega, X2, B2⟩
        case measure => simp [intOf]; omega
      · have X2 := Lib.hid (words_put (V := ((b : Int) * 256)) X.out HST.out (or_word x b 1 _ hxt hbl (by omega) (by simp)))
        have B2 := Lib.hid ((B.out.setCell (p := ⟨w.heap.size, j, none⟩) (Nat.le_refl _) (.int .u32 (bits .or .u32 (x : Int) ((b : Int) * 256)))).drew)
        go_wp2_with fail
        go_region
        go_wp2_with fail
        go_roundw
        case rel => exact ⟨k + 1, by go_num, by omega, X2, B2⟩
        case measure => simp [intOf]; omega
      · have X2 := Lib.hid (words_put (V := ((b : Int) * 65536)) X.out HST.out (or_word x b 2 _ hxt hbl (by omega) (by simp)))
        have B2 := Lib.hid ((B.out.setCell (p := ⟨w.heap.size, j, none⟩) (Nat.le_refl _) (.int .u32 (bits .or .u32 (x : Int) ((b : Int) * 65536)))).drew)
        go_wp2_with fail
        go_region
        go_wp2_with fail
        go_roundw
        case rel => exact ⟨k + 1, by go_num, by omega, X2, B2⟩
        case measure => simp [intOf]; omega
      · have X2 := Lib.hid (words_put (V := ((b : Int) * 16777216)) X.out HST.out (or_word x b 3 _ hxt hbl (by omega) (by simp)))
        have B2 := Lib.hid ((B.out.setCell (p := ⟨w.heap.size, j, none⟩) (Nat.le_refl _) (.int .u32 (bits .or .u32 (x : Int) ((b : Int) * 16777216)))).drew)
        go_wp2_with fail
        go_region
        go_wp2_with fail
        go_roundw
        case rel => exact ⟨k + 1, by go_num, by omega, X2, B2⟩
        case measure => simp [intOf]; omega
    · have hkn : k = (nS n).size := by omega
      subst hkn
      have hall : wPart m n (nS n).size = wDig m n := wPart_all (by have := digs_low (n := n) (k := (nS n).size) (by rw [nS_size]; exact Nat.le_refl _); exact this)
      have HALL := Lib.hid hall
      clear hall
      go_wp2_with fail
      go_ret
      exact ⟨w.heap.size, rfl, Nat.le_refl _, by rw [← HALL.out]; exact X.out, B.out⟩

/-! nat.text -/
/-- The last 4 i of 4 m bytes. -/
def tPart (m n i : Nat) : List Nat := (List.range (4 * m)).map fun p => if 4 * (m - i) ≤ p then n / 256 ^ (4 * m - 1 - p) % 256 else 0
def bC (l : List Nat) : Array Value := (l.map fun x : Nat => Value.int .u8 (x : Int)).toArray
theorem bC_set (l : List Nat) (j x : Nat) : (bC l).setIfInBounds j (.int .u8 x) = bC (l.set j x) := by
  apply Array.ext'
  simp [bC, List.map_set]
theorem tPart_zero (m n : Nat) : tPart m n 0 = List.replicate (4 * m) 0 := by
  unfold tPart
  apply List.ext_getElem?
  intro j
  rw [List.getElem?_map, List.getElem?_replicate]
  by_cases h : j < 4 * m
  · rw [if_pos h, List.getElem?_range h, Option.map_some, if_neg (by omega)]
  · rw [if_neg h, List.getElem?_eq_none (by simp; omega)]; rfl
theorem tPart_len (m n i : Nat) : (tPart m n i).length = 4 * m := by simp [tPart]
theorem tPart_all (m n : Nat) : tPart m n m = (bePad (4 * m) n).map fun b : UInt8 => b.toNat := by
  unfold tPart bePad
  rw [List.map_map]
  refine List.map_congr_left fun p hp => ?_
  rw [if_pos (by omega)]
  simp only [Function.comp, u8_nat]
theorem tPart_step {m n i : Nat} (hi : i < m) : ∃ k, k = 4 * (m - 1 - i) ∧ tPart m n (i + 1) = ((((tPart m n i).set k (n / 4294967296 ^ i % 4294967296 / 16777216 % 256)).set (k + 1) (n / 4294967296 ^ i % 4294967296 / 65536 % 256)).set (k + 2) (n / 4294967296 ^ i % 4294967296 / 256 % 256)).set (k + 3) (n / 4294967296 ^ i % 4294967296 % 256) := by
  refine ⟨4 * (m - 1 - i), rfl, ?_⟩
  have f : ∀ r, n / 256 ^ (4 * i + r) % 256 = n / 4294967296 ^ i / 256 ^ r % 256 := fun r => by
    rw [Nat.pow_add, ← Nat.div_div_eq_div_mul, pow_big]
  obtain ⟨q, hq⟩ : ∃ q, q = n / 4294967296 ^ i := ⟨_, rfl⟩
  rw [← hq] at f ⊢
  have f0 := f 0
  have f1 := f 1
  have f2 := f 2
  have f3 := f 3
  apply List.ext_getElem?
  intro p
  simp only [List.getElem?_set, List.length_set, tPart_len]
  by_cases hp : p < 4 * m
  · have old : (tPart m n i)[p]? = some (if 4 * (m - i) ≤ p then n / 256 ^ (4 * m - 1 - p) % 256 else 0) := by unfold tPart; rw [List.getElem?_map, List.getElem?_range hp]; rfl
    have new : (tPart m n (i + 1))[p]? = some (if 4 * (m - (i + 1)) ≤ p then n / 256 ^ (4 * m - 1 - p) % 256 else 0) := by unfold tPart; rw [List.getElem?_map, List.getElem?_range hp]; rfl
    rw [new]
    by_cases h3 : 4 * (m - 1 - i) + 3 = p
    · rw [if_pos h3, if_pos (by omega), if_pos (by omega), show 4 * m - 1 - p = 4 * i + 0 by omega, f0]; congr 1; (first | (simp; done) | (simp; omega))
    · rw [if_neg h3]
      by_cases h2 : 4 * (m - 1 - i) + 2 = p
      · rw [if_pos h2, if_pos (by omega), if_pos (by omega), show 4 * m - 1 - p = 4 * i + 1 by omega, f1]; congr 1; simp; omega
      · rw [if_neg h2]
        by_cases h1 : 4 * (m - 1 - i) + 1 = p
        · rw [if_pos h1, if_pos (by omega), if_pos (by omega), show 4 * m - 1 - p = 4 * i + 2 by omega, f2]; congr 1; simp; omega
        · rw [if_neg h1]
          by_cases h0 : 4 * (m - 1 - i) = p
          · rw [if_pos h0, if_pos (by omega), if_pos (by omega), show 4 * m - 1 - p = 4 * i + 3 by omega, f3]; congr 1; simp; omega
          · rw [if_neg h0, old]
            by_cases hc : 4 * (m - i) ≤ p
            · rw [if_pos hc, if_pos (by omega)]
            · rw [if_neg hc, if_neg (by omega)]
  · rw [List.getElem?_eq_none (by rw [tPart_len]; omega), if_neg (by omega), if_neg (by omega), if_neg (by omega), if_neg (by omega), List.getElem?_eq_none (by rw [tPart_len]; omega)]

set_option maxHeartbeats 2000000 in
theorem text_any (ga c m n : Nat) (w : World) (hm : m ≤ 30000) (hn : n < 256 ^ (4 * m)) (hX : Blk w ga 150 (wC (wDig m n))) :
    Calls Tryz.prog 118 #[.slice (some ⟨ga, 0, none⟩) m c] w fun e w' => e = .returned (.string (nS n)) ∧ Below w.heap.size w w' := by
  have hmk := run_make_row' (P := Tryz.prog) 95 5 (.int .u8 0) 1 Tryz.underlying95 info_u8 rfl .i64 .i64 (4 * m) (by omega) (by omega)
  have hm4 : (((4 * m : Nat) : Int)) = 4 * (m : Int) := by omega
  rw [hm4] at hmk
  have HN := Lib.hid hn
  clear hn hm4
  have X0 : Hid (Blk (w.alloc (.cells (madeCells #[.int .u8 0] (4 * m)) 5)) w.heap.size 5 (bC (tPart m n 0))) := by
    have e : madeCells #[.int .u8 0] (4 * m) = bC (tPart m n 0) := by
      rw [tPart_zero]
      apply Array.ext
      · simp [size_madeCells, bC]
      · intro i h1 h2
        simp [madeCells, Nat.mod_one, bC]
    unfold Hid
    rw [← e]
    exact Blk.new _ _ _
  have B0 := Lib.hid ((Below.refl w.heap.size w).alloc (Nat.le_refl _) (.cells (madeCells #[.int .u8 0] (4 * m)) 5))
  have Y := Lib.hid hX
  clear hX
  go_enter Tryz.func118, Tryz.ntmps118
  go_wp2_with fail
  clear hmk
  go_loopw [13] (fun i wr => ∃ k : Nat, i = .int .i64 k ∧ k ≤ m ∧ Hid (Blk wr w.heap.size 5 (bC (tPart m n k))) ∧ Hid (Below w.heap.size w wr)) (fun i _ => m - (intOf i).toNat)
  case atStart => exact ⟨0, rfl, by omega, X0, B0⟩
  case round =>
    clear X0 B0
    obtain ⟨k, rfl, hk, X, B⟩ := hrel
    by_cases hlt : k < m
    · obtain ⟨p, hp, hst⟩ := tPart_step (n := n) hlt
      have cw : wr.cell? ⟨ga, k, none⟩ = some (.int .u32 ((n / 4294967296 ^ k % 4294967296 : Nat) : Int)) := by
        rw [(Y.out.below B.out Y.out.lt).cell]
        exact wC_at (by unfold wDig; rw [List.getElem?_map, List.getElem?_range hlt]; rfl)
      obtain ⟨x, hx⟩ : ∃ x, x = n / 4294967296 ^ k % 4294967296 := ⟨_, rfl⟩
      rw [← hx] at cw hst
      have hxl : x < 4294967296 := by rw [hx]; exact Nat.mod_lt _ (by decide)
      have e1 : 4 * ((m : Int) - 1 - k) = (p : Int) := by omega
      have hp4 : p + 3 < 4 * m := by omega
      have hp5 : (p : Int) + 3 < 4 * m := by omega
      have fz0 := X.out.frozen p
      have fz1 := X.out.frozen (p + 1)
      have fz2 := X.out.frozen (p + 2)
      have fz3 := X.out.frozen (p + 3)
      have at_ : ∀ j, j < 4 * m → ∃ u, wr.cell? ⟨w.heap.size, j, none⟩ = some u := fun j hj => by
        rw [X.out.cell]
        exact ⟨_, Array.getElem?_eq_getElem (by simp [bC, tPart_len]; exact hj)⟩
      obtain ⟨u0, cu0⟩ := at_ p (by omega)
      obtain ⟨u1, cu1⟩ := at_ (p + 1) (by omega)
      obtain ⟨u2, cu2⟩ := at_ (p + 2) (by omega)
      obtain ⟨u3, cu3⟩ := at_ (p + 3) (by omega)
      have HST := Lib.hid hst
      clear hx hst hp at_
      have X2 : Hid (Blk ((((wr.setCell ⟨w.heap.size, p, none⟩ (.int .u8 ((x : Int) / 16777216))).setCell ⟨w.heap.size, p + 1, none⟩ (.int .u8 ((x : Int) / 65536 % 256))).setCell ⟨w.heap.size, p + 2, none⟩ (.int .u8 ((x : Int) / 256 % 256))).setCell ⟨w.heap.size, p + 3, none⟩ (.int .u8 ((x : Int) % 256))) w.heap.size 5 (bC (tPart m n (k + 1)))) := by
        unfold Hid
        rw [HST.out, ← bC_set, ← bC_set, ← bC_set, ← bC_set]
        have v0 : (x : Int) / 16777216 = ((x / 16777216 % 256 : Nat) : Int) := by omega
        have v1 : (x : Int) / 65536 % 256 = ((x / 65536 % 256 : Nat) : Int) := by omega
        have v2 : (x : Int) / 256 % 256 = ((x / 256 % 256 : Nat) : Int) := by omega
        have v3 : (x : Int) % 256 = ((x % 256 : Nat) : Int) := by omega
        rw [v0, v1, v2, v3]
        exact (((X.out.set_ p _).set_ (p + 1) _).set_ (p + 2) _).set_ (p + 3) _
      have B2 : Hid (Below w.heap.size w ((((wr.setCell ⟨w.heap.size, p, none⟩ (.int .u8 ((x : Int) / 16777216))).setCell ⟨w.heap.size, p + 1, none⟩ (.int .u8 ((x : Int) / 65536 % 256))).setCell ⟨w.heap.size, p + 2, none⟩ (.int .u8 ((x : Int) / 256 % 256))).setCell ⟨w.heap.size, p + 3, none⟩ (.int .u8 ((x : Int) % 256)))) :=
        (((B.out.setCell (p := ⟨w.heap.size, p, none⟩) (Nat.le_refl _) _).setCell (p := ⟨w.heap.size, p + 1, none⟩) (Nat.le_refl _) _).setCell (p := ⟨w.heap.size, p + 2, none⟩) (Nat.le_refl _) _).setCell (p := ⟨w.heap.size, p + 3, none⟩) (Nat.le_refl _) _
      go_wp2_with fail
      go_roundw
      case rel => exact ⟨k + 1, by go_num, by omega, X2, B2⟩
      case measure => simp [intOf]; omega
    · have hkm : k = m := by omega
      subst hkm
      obtain ⟨z, hz⟩ := bePad_eq (4 * k) n HN.out
      have hl : (bePad (4 * k) n).length = 4 * k := by simp [bePad]
      have cv := run_convert_bytes_back (P := Tryz.prog) wr 95 9 5 ⟨w.heap.size, 0, none⟩ (4 * k) (bePad (4 * k) n) Tryz.underlying95 Tryz.underlying5 Tryz.underlying9 (fun j hj => by
        rw [Addr.add_lit, Nat.zero_add, X.out.cell, tPart_all]
        simp only [bC, List.map_map, List.getElem?_toArray, List.getElem?_map, List.getElem?_eq_getElem hj, Option.map_some]
        rfl)
      rw [hl] at cv
      have HZ : Hid ((⟨(bePad (4 * k) n).toArray⟩ : ByteArray).data.toList = List.replicate z 0 ++ digs n) := hz
      have hsz : (⟨(bePad (4 * k) n).toArray⟩ : ByteArray).size ≤ 1000000 := by rw [ba_size]; simp only [hl]; omega
      clear hz hl
      go_wp2_with fail
      refine (trim_pad _ z n _ HZ hsz).mono ?_
      rintro e w2 ⟨rfl, rfl⟩
      go_wp2
      go_ret
      exact ⟨rfl, B.out⟩

/-! nat.less -/
theorem sub_div (X Y A : Nat) (hA : 0 < A) (h : Y ≤ X) : (X - Y) / A + Y / A + (if X % A < Y % A then 1 else 0) = X / A := by
  have h1 := Nat.div_add_mod X A
  have h2 := Nat.div_add_mod Y A
  have r1 := Nat.mod_lt X hA
  have r2 := Nat.mod_lt Y hA
  have hle : Y / A ≤ X / A := Nat.div_le_div_right h
  obtain ⟨p, hp⟩ : ∃ p, p = X / A := ⟨_, rfl⟩
  obtain ⟨q, hq⟩ : ∃ q, q = Y / A := ⟨_, rfl⟩
  rw [← hp] at h1 hle ⊢
  rw [← hq] at h2 hle ⊢
  obtain ⟨d, rfl⟩ : ∃ d, p = q + d := ⟨p - q, by omega⟩
  rw [Nat.mul_add] at h1
  by_cases hc : X % A < Y % A
  · rw [if_pos hc]
    have hd : 0 < d := by
      rcases Nat.eq_zero_or_pos d with h0 | h0
      · subst h0; omega
      · exact h0
    obtain ⟨e, rfl⟩ : ∃ e, d = e + 1 := ⟨d - 1, by omega⟩
    have : (X - Y) / A = e := by
      refine Nat.div_eq_of_lt_le ?_ ?_
      · rw [Nat.mul_comm]; rw [Nat.mul_succ] at h1; omega
      · rw [Nat.mul_comm, Nat.mul_succ]; rw [Nat.mul_succ] at h1; omega
    omega
  · rw [if_neg hc]
    have : (X - Y) / A = d := by
      refine Nat.div_eq_of_lt_le ?_ ?_
      · rw [Nat.mul_comm]; omega
      · rw [Nat.mul_comm, Nat.mul_succ]; omega
    omega
/-- Whether a borrow comes into digit i. -/
def bw (X Y i : Nat) : Nat := if X % 4294967296 ^ i < Y % 4294967296 ^ i then 1 else 0
theorem bw_zero (X Y : Nat) : bw X Y 0 = 0 := by simp [bw, Nat.mod_one]
theorem bw_le (X Y i : Nat) : bw X Y i ≤ 1 := by unfold bw; split <;> omega
theorem bw_step {X Y i x y : Nat} (h : Y ≤ X) (hx : x = X / 4294967296 ^ i % 4294967296) (hy : y = Y / 4294967296 ^ i % 4294967296) :
    (y + bw X Y i ≤ x ∧ bw X Y (i + 1) = 0 ∧ (X - Y) / 4294967296 ^ i % 4294967296 = x - y - bw X Y i) ∨ (x < y + bw X Y i ∧ bw X Y (i + 1) = 1 ∧ (X - Y) / 4294967296 ^ i % 4294967296 = 4294967296 + x - y - bw X Y i) := by
  have hA : 0 < 4294967296 ^ i := Nat.pow_pos (by decide)
  have key := sub_div X Y (4294967296 ^ i) hA h
  have m1 : X % 4294967296 ^ (i + 1) = X % 4294967296 ^ i + 4294967296 ^ i * x := by rw [Nat.pow_succ, Nat.mod_mul, hx]
  have m2 : Y % 4294967296 ^ (i + 1) = Y % 4294967296 ^ i + 4294967296 ^ i * y := by rw [Nat.pow_succ, Nat.mod_mul, hy]
  have r1 := Nat.mod_lt X hA
  have r2 := Nat.mod_lt Y hA
  have kb : bw X Y i = if X % 4294967296 ^ i < Y % 4294967296 ^ i then 1 else 0 := rfl
  have kb1 : bw X Y (i + 1) = if X % 4294967296 ^ (i + 1) < Y % 4294967296 ^ (i + 1) then 1 else 0 := rfl
  rw [← kb] at key
  rw [m1, m2] at kb1
  generalize 4294967296 ^ i = A at *
  generalize X / A = P at *
  generalize Y / A = Q at *
  generalize X % A = R at *
  generalize Y % A = S at *
  have hb := bw_le X Y i
  by_cases hc : R < S
  · rw [if_pos hc] at kb
    rw [kb] at key ⊢
    by_cases hxy : x < y + 1
    · right
      have : A * x + A ≤ A * (y + 1) := by rw [← Nat.mul_succ]; exact Nat.mul_le_mul_left A (by omega)
      rw [Nat.mul_succ] at this
      rw [if_pos (by omega)] at kb1
      exact ⟨hxy, kb1, by omega⟩
    · left
      have : A * (y + 1) ≤ A * x := Nat.mul_le_mul_left A (by omega)
      rw [Nat.mul_succ] at this
      rw [if_neg (by omega)] at kb1
      exact ⟨by omega, kb1, by omega⟩
  · rw [if_neg hc] at kb
    rw [kb] at key ⊢
    by_cases hxy : x < y
    · right
      have : A * (x + 1) ≤ A * y := Nat.mul_le_mul_left A (by omega)
      rw [Nat.mul_succ] at this
      rw [if_pos (by omega)] at kb1
      exact ⟨by omega, kb1, by omega⟩
    · left
      have : A * y ≤ A * x := Nat.mul_le_mul_left A (by omega)
      rw [if_neg (by omega)] at kb1
      exact ⟨by omega, kb1, by omega⟩
end Go.Proofs.YtaiokjhjakdhaaaGreatDoor

namespace Go.Proofs.YtaiokjhjakdhaaaGreatDoor
open Go.RowKit
set_option linter.unusedVariables false
set_option maxRecDepth 100000

theorem grown_set {w wr : World} {g : Nat} (h : w.grownBy wr (some g)) (j : Nat) (u : Value) : w.grownBy (wr.setCell ⟨g, j, none⟩ u) (some g) :=
  h.trans ⟨rfl, rfl, rfl, by simp [World.setCell], fun k _ hk => Below.heap_setCell wr ⟨g, j, none⟩ u k (by simpa using hk)⟩
theorem wDig_at {m n j : Nat} (h : j < m) : (wDig m n)[j]? = some (n / 4294967296 ^ j % 4294967296) := by unfold wDig; rw [List.getElem?_map, List.getElem?_range h]; rfl
theorem nS_low (n : Nat) : n < 4294967296 ^ (((nS n).size + 3) / 4) := by
  have h := digs_low (n := n) (k := (nS n).size) (by rw [nS_size]; exact Nat.le_refl _)
  rw [show (4294967296 : Nat) = 256 ^ 4 from rfl, ← Nat.pow_mul]
  exact Nat.lt_of_lt_of_le h (Nat.pow_le_pow_right (by decide) (by omega))
end Go.Proofs.YtaiokjhjakdhaaaGreatDoor

namespace Go.Proofs.YtaiokjhjakdhaaaGreatDoor
open Go.RowKit
set_option linter.unusedVariables false
set_option maxRecDepth 100000

theorem dig_lt (X i : Nat) : X / 4294967296 ^ i % 4294967296 < 4294967296 := Nat.mod_lt _ (by decide)
theorem pw_pos (i : Nat) : 0 < 4294967296 ^ i := Nat.pow_pos (by decide)
theorem mod_succ (X i : Nat) : X % 4294967296 ^ (i + 1) = X % 4294967296 ^ i + 4294967296 ^ i * (X / 4294967296 ^ i % 4294967296) := by rw [Nat.pow_succ, Nat.mod_mul]
theorem div_two (A B n t : Nat) (ht : t < A) : (A * n + t) / (A * B) = n / B := by
  rw [← Nat.div_div_eq_div_mul, Nat.mul_add_div (by omega), Nat.div_eq_of_lt ht, Nat.add_zero]
/-- The first i digits are those of n, the others 0. -/
def aPart (m n i : Nat) : List Nat := (List.range m).map fun j => if j < i then n / 4294967296 ^ j % 4294967296 else 0
theorem aPart_at {m n i j : Nat} (h : j < m) : (aPart m n i)[j]? = some (if j < i then n / 4294967296 ^ j % 4294967296 else 0) := by
  unfold aPart; rw [List.getElem?_map, List.getElem?_range h]; rfl
theorem aPart_zero (m n : Nat) : aPart m n 0 = List.replicate m 0 := by
  apply List.ext_getElem?
  intro j
  by_cases h : j < m
  · rw [aPart_at h, List.getElem?_replicate, if_pos h, if_neg (by omega)]
  · rw [List.getElem?_eq_none (by simp [aPart]; omega), List.getElem?_eq_none (by simp; omega)]
theorem made_wC (m : Nat) : madeCells #[.int .u32 0] m = wC (List.replicate m 0) := by
  apply Array.ext
  · simp [size_madeCells, wC]
  · intro i h1 h2
    simp [madeCells, Nat.mod_one, wC]

/-- The carry into digit i of a sum. -/
def cyA (X Y i : Nat) : Nat := (X % 4294967296 ^ i + Y % 4294967296 ^ i) / 4294967296 ^ i
theorem cyA_zero (X Y : Nat) : cyA X Y 0 = 0 := by simp [cyA, Nat.mod_one]
theorem cyA_le (X Y i : Nat) : cyA X Y i ≤ 1 := by
  have h1 := Nat.mod_lt X (pw_pos i)
  have h2 := Nat.mod_lt Y (pw_pos i)
  have : cyA X Y i < 2 := by unfold cyA; rw [Nat.div_lt_iff_lt_mul (pw_pos i)]; omega
  omega
theorem cyA_step {X Y i x y : Nat} (hx : x = X / 4294967296 ^ i % 4294967296) (hy : y = Y / 4294967296 ^ i % 4294967296) :
    (X + Y) / 4294967296 ^ i % 4294967296 = (cyA X Y i + x + y) % 4294967296 ∧ cyA X Y (i + 1) = (cyA X Y i + x + y) / 4294967296 := by
  have hA := pw_pos i
  have e0 := Nat.div_add_mod (X % 4294967296 ^ i + Y % 4294967296 ^ i) (4294967296 ^ i)
  have hc : cyA X Y i = (X % 4294967296 ^ i + Y % 4294967296 ^ i) / 4294967296 ^ i := rfl
  have m1 := mod_succ X i
  have m2 := mod_succ Y i
  have d1 := Nat.div_add_mod X (4294967296 ^ i)
  have d2 := Nat.div_add_mod Y (4294967296 ^ i)
  have e1 := Nat.div_add_mod (X / 4294967296 ^ i) 4294967296
  have e2 := Nat.div_add_mod (Y / 4294967296 ^ i) 4294967296
  rw [← hx] at m1 e1
  rw [← hy] at m2 e2
  have hc1 : cyA X Y (i + 1) = (X % 4294967296 ^ (i + 1) + Y % 4294967296 ^ (i + 1)) / (4294967296 ^ i * 4294967296) := by unfold cyA; rw [Nat.pow_succ]
  rw [← hc] at e0
  rw [hc1, m1, m2]
  have ht := Nat.mod_lt (X % 4294967296 ^ i + Y % 4294967296 ^ i) hA
  generalize 4294967296 ^ i = A at *
  generalize cyA X Y i = c at *
  generalize (X % A + Y % A) % A = t at *
  constructor
  · generalize X / A / 4294967296 = u at *
    generalize Y / A / 4294967296 = v at *
    have : X + Y = A * (4294967296 * (u + v) + (c + x + y)) + t := by
      rw [← d1, ← d2, ← e1, ← e2]
      simp only [Nat.mul_add] at *
      omega
    rw [this, Nat.mul_add_div hA, Nat.div_eq_of_lt ht, Nat.add_zero, Nat.mul_add_mod]
  · have : X % A + A * x + (Y % A + A * y) = A * (c + x + y) + t := by simp only [Nat.mul_add]; omega
    rw [this, div_two _ _ _ _ ht]
theorem dig_high {Y k j : Nat} (h : Y < 4294967296 ^ k) (hj : k ≤ j) : Y / 4294967296 ^ j % 4294967296 = 0 := by
  rw [Nat.div_eq_of_lt (Nat.lt_of_lt_of_le h (Nat.pow_le_pow_right (by decide) hj))]
end Go.Proofs.YtaiokjhjakdhaaaGreatDoor

namespace Go.Proofs.YtaiokjhjakdhaaaGreatDoor
open Go.RowKit
set_option linter.unusedVariables false
set_option maxRecDepth 100000

/-- The first p digits are those of S, the others those of N. -/
def mPart (M S N p : Nat) : List Nat := (List.range M).map fun j => if j < p then S / 4294967296 ^ j % 4294967296 else N / 4294967296 ^ j % 4294967296
theorem mPart_len (M S N p : Nat) : (mPart M S N p).length = M := by simp [mPart]
theorem mPart_at {M S N p j : Nat} (h : j < M) : (mPart M S N p)[j]? = some (if j < p then S / 4294967296 ^ j % 4294967296 else N / 4294967296 ^ j % 4294967296) := by
  unfold mPart; rw [List.getElem?_map, List.getElem?_range h]; rfl
theorem mPart_step {M S N p d : Nat} (h : p < M) (hd : S / 4294967296 ^ p % 4294967296 = d) : mPart M S N (p + 1) = (mPart M S N p).set p d := by
  apply List.ext_getElem?
  intro j
  rw [List.getElem?_set]
  by_cases hj : j < M
  · rw [mPart_at hj, mPart_at hj]
    by_cases h1 : p = j
    · subst h1; rw [if_pos rfl, if_pos (by omega), if_pos (by rw [mPart_len]; exact h), hd]
    · rw [if_neg h1]
      by_cases h2 : j < p
      · rw [if_pos h2, if_pos (by omega)]
      · rw [if_neg h2, if_neg (by omega)]
  · rw [List.getElem?_eq_none (by simp [mPart]; omega), if_neg (by omega), List.getElem?_eq_none (by simp [mPart]; omega)]
theorem mPart_same {M S N p : Nat} (h : ∀ j, j < p → S / 4294967296 ^ j % 4294967296 = N / 4294967296 ^ j % 4294967296) : mPart M S N p = wDig M N := by
  unfold mPart wDig
  refine List.map_congr_left fun j _ => ?_
  split
  · exact h j ‹_›
  · rfl
theorem mPart_full {M S N p : Nat} (h : ∀ j, p ≤ j → S / 4294967296 ^ j % 4294967296 = N / 4294967296 ^ j % 4294967296) : mPart M S N p = wDig M S := by
  unfold mPart wDig
  refine List.map_congr_left fun j _ => ?_
  split
  · rfl
  · exact (h j (by omega)).symm
/-- The carry. -/
def cyM (N w Y i k : Nat) : Nat := (N % 4294967296 ^ (i + k) + w * (Y % 4294967296 ^ k) * 4294967296 ^ i) / 4294967296 ^ (i + k)
theorem cyM_zero (N w Y i : Nat) : cyM N w Y i 0 = 0 := by
  unfold cyM
  rw [Nat.pow_zero, Nat.mod_one, Nat.mul_zero, Nat.zero_mul, Nat.add_zero, Nat.add_zero]
  exact Nat.div_eq_of_lt (Nat.mod_lt _ (pw_pos _))
theorem cyM_lt {N w Y i k : Nat} (hw : w < 4294967296) : cyM N w Y i k < 4294967296 := by
  unfold cyM
  rw [Nat.div_lt_iff_lt_mul (pw_pos _), Nat.pow_add]
  have h1 := Nat.mod_lt N (pw_pos (i + k))
  rw [Nat.pow_add] at h1
  have h2 : Y % 4294967296 ^ k + 1 ≤ 4294967296 ^ k := Nat.mod_lt Y (pw_pos k)
  have h3 : w * (Y % 4294967296 ^ k) ≤ 4294967295 * (Y % 4294967296 ^ k) := Nat.mul_le_mul_right _ (by omega)
  have h4 := Nat.mul_le_mul_right (4294967296 ^ i) h3
  have h5 : (Y % 4294967296 ^ k + 1) * 4294967296 ^ i ≤ 4294967296 ^ k * 4294967296 ^ i := Nat.mul_le_mul_right _ h2
  rw [Nat.mul_comm (4294967296 ^ k) (4294967296 ^ i)] at h5
  rw [Nat.add_mul, Nat.one_mul] at h5
  rw [Nat.mul_assoc 4294967295] at h4
  have hE := pw_pos i
  generalize (Y % 4294967296 ^ k) * 4294967296 ^ i = T at *
  generalize w * (Y % 4294967296 ^ k) * 4294967296 ^ i = V at *
  generalize 4294967296 ^ i * 4294967296 ^ k = A at *
  generalize N % A = r at *
  omega
theorem cyM_step {N w Y i k y o S : Nat} (hS : S = N + w * Y * 4294967296 ^ i) (hy : y = Y / 4294967296 ^ k % 4294967296) (ho : o = N / 4294967296 ^ (i + k) % 4294967296) :
    S / 4294967296 ^ (i + k) % 4294967296 = (cyM N w Y i k + (w * y + o)) % 4294967296 ∧ cyM N w Y i (k + 1) = (cyM N w Y i k + (w * y + o)) / 4294967296 := by
  have hA := pw_pos (i + k)
  have hc : cyM N w Y i k = (N % 4294967296 ^ (i + k) + w * (Y % 4294967296 ^ k) * 4294967296 ^ i) / 4294967296 ^ (i + k) := rfl
  have hc1 : cyM N w Y i (k + 1) = (N % 4294967296 ^ (i + k + 1) + w * (Y % 4294967296 ^ (k + 1)) * 4294967296 ^ i) / (4294967296 ^ (i + k) * 4294967296) := by
    unfold cyM; rw [← Nat.add_assoc, Nat.pow_succ 4294967296 (i + k)]
  have e0 := Nat.div_add_mod (N % 4294967296 ^ (i + k) + w * (Y % 4294967296 ^ k) * 4294967296 ^ i) (4294967296 ^ (i + k))
  rw [← hc] at e0
  have ht := Nat.mod_lt (N % 4294967296 ^ (i + k) + w * (Y % 4294967296 ^ k) * 4294967296 ^ i) hA
  have m1 := mod_succ N (i + k)
  have m2 := mod_succ Y k
  have d1 := Nat.div_add_mod N (4294967296 ^ (i + k))
  have d2 := Nat.div_add_mod Y (4294967296 ^ k)
  have f1 := Nat.div_add_mod (N / 4294967296 ^ (i + k)) 4294967296
  have f2 := Nat.div_add_mod (Y / 4294967296 ^ k) 4294967296
  rw [← ho] at m1 f1
  rw [← hy] at m2 f2
  rw [hc1, m1, m2]
  have hp : 4294967296 ^ (i + k) = 4294967296 ^ k * 4294967296 ^ i := by rw [Nat.add_comm, Nat.pow_add]
  have q1 : w * (Y % 4294967296 ^ k + 4294967296 ^ k * y) * 4294967296 ^ i = w * (Y % 4294967296 ^ k) * 4294967296 ^ i + 4294967296 ^ (i + k) * (w * y) := by
    rw [hp, Nat.mul_add, Nat.add_mul, show w * (4294967296 ^ k * y) * 4294967296 ^ i = 4294967296 ^ k * 4294967296 ^ i * (w * y) by ac_rfl]
  constructor
  · have q2 : w * Y * 4294967296 ^ i = w * (Y % 4294967296 ^ k) * 4294967296 ^ i + 4294967296 ^ (i + k) * (w * (4294967296 * (Y / 4294967296 ^ k / 4294967296) + y)) := by
      conv => lhs; rw [← d2, ← f2]
      rw [hp, Nat.mul_add, Nat.add_mul, show w * (4294967296 ^ k * (4294967296 * (Y / 4294967296 ^ k / 4294967296) + y)) * 4294967296 ^ i = 4294967296 ^ k * 4294967296 ^ i * (w * (4294967296 * (Y / 4294967296 ^ k / 4294967296) + y)) by ac_rfl, Nat.add_comm]
    rw [hS, q2]
    generalize w * (Y % 4294967296 ^ k) * 4294967296 ^ i = V at *
    generalize 4294967296 ^ (i + k) = A at *
    generalize Y / 4294967296 ^ k / 4294967296 = v at *
    generalize cyM N w Y i k = c at *
    generalize (N % A + V) % A = t at *
    generalize N / A / 4294967296 = u at *
    have q3 : w * (4294967296 * v + y) = 4294967296 * (w * v) + w * y := by rw [Nat.mul_add, show w * (4294967296 * v) = 4294967296 * (w * v) by ac_rfl]
    rw [q3]
    have : N + (V + A * (4294967296 * (w * v) + w * y)) = A * (4294967296 * (u + w * v) + (c + (w * y + o))) + t := by
      rw [← d1, ← f1]
      simp only [Nat.mul_add] at *
      omega
    rw [this, Nat.mul_add_div hA, Nat.div_eq_of_lt ht, Nat.add_zero, Nat.mul_add_mod]
  · rw [q1]
    generalize w * (Y % 4294967296 ^ k) * 4294967296 ^ i = V at *
    generalize 4294967296 ^ (i + k) = A at *
    generalize cyM N w Y i k = c at *
    generalize (N % A + V) % A = t at *
    have : N % A + A * o + (V + A * (w * y)) = A * (c + (w * y + o)) + t := by simp only [Nat.mul_add]; omega
    rw [this, div_two _ _ _ _ ht]
theorem mul_nums {N w Y i k y o c S : Nat} (hw : w < 4294967296) (hS : S = N + w * Y * 4294967296 ^ i) (hy : y = Y / 4294967296 ^ k % 4294967296) (ho : o = N / 4294967296 ^ (i + k) % 4294967296) (hc : c = cyM N w Y i k) :
    ∃ (N1 N2 N3 : Int) (d c' : Nat), IntKind.u64.wrap ((w : Int) * y) = N1 ∧ IntKind.u64.wrap (N1 + o) = N2 ∧ IntKind.u64.wrap ((c : Int) + N2) = N3 ∧ N3 % 4294967296 = d ∧ N3 / 4294967296 = c' ∧ 0 ≤ N1 ∧ N1 ≤ 18446744073709551615 ∧ 0 ≤ N2 ∧ N2 ≤ 18446744073709551615 ∧ 0 ≤ N3 ∧ N3 ≤ 18446744073709551615 ∧ c' = cyM N w Y i (k + 1) ∧ S / 4294967296 ^ (i + k) % 4294967296 = d ∧ d < 4294967296 ∧ c' < 4294967296 := by
  have hyl : y < 4294967296 := by rw [hy]; exact dig_lt Y k
  have hol : o < 4294967296 := by rw [ho]; exact dig_lt N (i + k)
  have hcl : c < 4294967296 := by rw [hc]; exact cyM_lt hw
  obtain ⟨h1, h2⟩ := cyM_step hS hy ho
  have h3 := cyM_lt (N := N) (w := w) (Y := Y) (i := i) (k := k + 1) hw
  rw [← hc] at h1 h2
  have hp : w * y ≤ 4294967295 * 4294967295 := Nat.mul_le_mul (by omega) (by omega)
  generalize hP : w * y = p at *
  have hPi : (w : Int) * y = (p : Int) := by rw [← hP, Int.natCast_mul]
  rw [hPi]
  refine ⟨p, p + o, c + (p + o), (c + (p + o)) % 4294967296, (c + (p + o)) / 4294967296, IntWalk.u64_in _ (by omega), IntWalk.u64_in _ (by omega), IntWalk.u64_in _ (by omega), by omega, by omega, by omega, by omega, by omega, by omega, by omega, by omega, h2.symm, h1, by omega, by rw [← h2]; exact h3⟩
/-- The carry that is left is the last digit. -/
theorem cyM_last {X Y w i k N S : Nat} (hX : w = X / 4294967296 ^ i % 4294967296) (hN : N = X % 4294967296 ^ i * Y) (hS : S = N + w * Y * 4294967296 ^ i) (hY : Y < 4294967296 ^ k) :
    S / 4294967296 ^ (i + k) % 4294967296 = cyM N w Y i k ∧ S = X % 4294967296 ^ (i + 1) * Y ∧ N < 4294967296 ^ (i + k) ∧ S < 4294967296 ^ (i + k + 1) := by
  have hw : w < 4294967296 := by rw [hX]; exact dig_lt X i
  have h1 : X % 4294967296 ^ i + 1 ≤ 4294967296 ^ i := Nat.mod_lt X (pw_pos i)
  have h2 : N < 4294967296 ^ (i + k) := by
    rw [hN, Nat.pow_add]
    rcases Nat.eq_zero_or_pos (4294967296 ^ i) with h | h
    · have := pw_pos i; omega
    · exact Nat.lt_of_le_of_lt (Nat.mul_le_mul_right _ (show X % 4294967296 ^ i ≤ 4294967296 ^ i by omega)) (Nat.mul_lt_mul_of_pos_left hY h)
  have h3 : S = X % 4294967296 ^ (i + 1) * Y := by
    rw [mod_succ, ← hX, Nat.add_mul, ← hN, hS]
    congr 1
    ac_rfl
  have h4 : cyM N w Y i k = S / 4294967296 ^ (i + k) := by unfold cyM; rw [Nat.mod_eq_of_lt h2, Nat.mod_eq_of_lt hY, hS]
  have h5 := cyM_lt (N := N) (w := w) (Y := Y) (i := i) (k := k) hw
  refine ⟨?_, h3, h2, ?_⟩
  · rw [h4] at h5 ⊢
    exact Nat.mod_eq_of_lt h5
  · rw [h4, Nat.div_lt_iff_lt_mul (pw_pos _)] at h5
    rw [Nat.pow_succ, Nat.mul_comm]
    exact h5

set_option maxHeartbeats 4000000 in
theorem MulL_pad (s t : ByteArray) (y z a b : Nat) (w : World) (hs : Hid (s.data.toList = List.replicate y 0 ++ digs a)) (hs2 : s.size ≤ 1000000) (ht : Hid (t.data.toList = List.replicate z 0 ++ digs b)) (ht2 : t.size ≤ 1000000) (ha : (nS a).size ≤ 50000) (hb : (nS b).size ≤ 50000) (hl : ¬ (nS a).size + (nS b).size ≤ 8) :
    Calls Tryz.prog 124 #[.string s, .string t] w fun e w' => e = .returned (.string (nS (a * b))) ∧ Below w.heap.size w w' := by
  obtain ⟨ma, hma⟩ : ∃ m, m = ((nS a).size + 3) / 4 := ⟨_, rfl⟩
  obtain ⟨mb, hmb⟩ : ∃ m, m = ((nS b).size + 3) / 4 := ⟨_, rfl⟩
  have la : a < 4294967296 ^ ma := by rw [hma]; exact nS_low a
  have lb : b < 4294967296 ^ mb := by rw [hmb]; exact nS_low b
  have WA := fun w => words_any a w (by omega)
  have WB := fun w => words_any b w (by omega)
  rw [← hma] at WA
  rw [← hmb] at WB
  have ma1 : ma ≤ 12501 := by omega
  have mb1 : mb ≤ 12501 := by omega
  have LA := Lib.hid la
  have LB := Lib.hid lb
  clear hma hmb la lb
  go_enter Tryz.func124, Tryz.ntmps124
  go_wp2_with fail
  refine (trim_pad s y a _ hs hs2).mono ?_
  rintro e w' ⟨rfl, rfl⟩
  go_wp2_with fail
  refine (trim_pad t z b _ ht ht2).mono ?_
  rintro e w' ⟨rfl, rfl⟩
  clear hs ht
  go_wp2_with fail
  refine (WA _).mono ?_
  rintro e w1 ⟨ga, rfl, hga, hX, hb1⟩
  have X1 := Lib.hid hX
  have B1 := Lib.hid hb1
  clear hX hb1
  go_wp2_with fail
  refine (WB _).mono ?_
  rintro e w2 ⟨gb, rfl, hgb, hY, hb2⟩
  have X2 := Lib.hid (X1.out.below hb2 X1.out.lt)
  have Y2 := Lib.hid hY
  have B2 := Lib.hid (B1.out.trans (hb2.mono B1.out.size))
  clear hY hb2 X1 B1 hgb hga WA WB
  have hmk := run_make_row' (P := Tryz.prog) 146 150 (.int .u32 0) 4 Tryz.underlying146 info_u32 rfl .i64 .i64 (ma + mb) (by omega) (by omega)
  have hmc : (((ma + mb : Nat)) : Int) = (ma : Int) + (mb : Int) := by omega
  rw [hmc] at hmk
  have Z0 : Hid (Blk (w2.alloc (.cells (madeCells #[.int .u32 0] (ma + mb)) 150)) w2.heap.size 150 (wC (wDig (ma + mb) (a % 4294967296 ^ 0 * b)))) := by
    have e : wDig (ma + mb) (a % 4294967296 ^ 0 * b) = List.replicate (ma + mb) 0 := by
      rw [← aPart_zero (ma + mb) 0]
      unfold wDig aPart
      refine List.map_congr_left fun j _ => ?_
      rw [Nat.pow_zero, Nat.mod_one, Nat.zero_mul, Nat.zero_div, if_neg (by omega)]
    unfold Hid
    rw [e, ← made_wC]
    exact Blk.new _ _ _
  have P0 := Lib.hid (X2.out.alloc (.cells (madeCells #[.int .u32 0] (ma + mb)) 150))
  have Q0 := Lib.hid (Y2.out.alloc (.cells (madeCells #[.int .u32 0] (ma + mb)) 150))
  have B3 := Lib.hid (B2.out.alloc B2.out.size (.cells (madeCells #[.int .u32 0] (ma + mb)) 150))
  have hn1 : ga < w2.heap.size := X2.out.lt
  have hn2 : gb < w2.heap.size := Y2.out.lt
  have hn3 : w.heap.size ≤ w2.heap.size := B2.out.size
  clear hmc
  go_wp2_with fail
  clear hmk
  generalize hW3 : w2.alloc (.cells (madeCells #[.int .u32 0] (ma + mb)) 150) = w3 at Z0 P0 Q0 B3 ⊢
  clear hW3
  obtain ⟨gz, hgz⟩ : ∃ g, g = w2.heap.size := ⟨_, rfl⟩
  rw [← hgz] at hn1 hn2 hn3 Z0 ⊢
  clear hgz X2 Y2 B2
  go_loopw [41] (fun i wr => ∃ k : Nat, i = .int .i64 k ∧ k ≤ ma ∧ Hid (Blk wr gz 150 (wC (wDig (ma + mb) (a % 4294967296 ^ k * b)))) ∧ Hid (w3.grownBy wr (some gz))) (fun i _ => ma - (intOf i).toNat)
  case atStart => exact ⟨0, rfl, by omega, Z0, World.grownBy.refl w3 _⟩
  case round =>
    clear Z0
    obtain ⟨i, rfl, hi, ZZ, GG⟩ := hrel
    have PX := Lib.hid (P0.out.grown GG.out (by simp; omega))
    by_cases hlt : i < ma
    · obtain ⟨x, hx⟩ : ∃ x, x = a / 4294967296 ^ i % 4294967296 := ⟨_, rfl⟩
      have hxl : x < 4294967296 := by rw [hx]; exact dig_lt _ _
      obtain ⟨N, hN⟩ : ∃ N, N = a % 4294967296 ^ i * b := ⟨_, rfl⟩
      obtain ⟨S, hS⟩ : ∃ S, S = N + x * b * 4294967296 ^ i := ⟨_, rfl⟩
      have cX : wr.cell? ⟨ga, i, none⟩ = some (.int .u32 x) := by rw [PX.out.cell, hx]; exact wC_at (wDig_at hlt)
      rw [← hN] at ZZ
      have ZM : Hid (Blk wr gz 150 (wC (mPart (ma + mb) S N (i + 0)))) := by
        unfold Hid
        rw [mPart_same (fun j hj => ?_)]
        · exact ZZ.out
        · have hp : 4294967296 ^ i = 4294967296 ^ j * (4294967296 * 4294967296 ^ (i - j - 1)) := by
            conv => lhs; rw [show i = j + (1 + (i - j - 1)) by omega, Nat.pow_add, Nat.pow_add, Nat.pow_one]
          rw [hS, hp, show x * b * (4294967296 ^ j * (4294967296 * 4294967296 ^ (i - j - 1))) = 4294967296 ^ j * (4294967296 * (x * b * 4294967296 ^ (i - j - 1))) by ac_rfl, Nat.add_comm, Nat.mul_add_div (pw_pos j), Nat.mul_add_mod]
      have HX := Lib.hid hx
      have HN := Lib.hid hN
      have HS := Lib.hid hS
      clear hx hN hS ZZ
      go_wp2_with fail
      obtain ⟨wo, hwo⟩ : ∃ wo : World, wo = wr := ⟨_, rfl⟩
      subst hwo
      clear cX PX
      go_loopw [10, 48] (fun c k wr => ∃ j : Nat, k = .int .i64 j ∧ j ≤ mb ∧ c = .int .u64 (cyM N x b i j) ∧ Hid (Blk wr gz 150 (wC (mPart (ma + mb) S N (i + j)))) ∧ Hid (w3.grownBy wr (some gz))) (fun _ k _ => mb - (intOf k).toNat)
      case atStart => exact ⟨0, rfl, by omega, by rw [cyM_zero]; rfl, ZM, GG⟩
      case round =>
        clear ZM GG
        obtain ⟨j, rfl, hj, rfl, ZZ, GG⟩ := hrel
        obtain ⟨c, hc⟩ : ∃ c, c = cyM N x b i j := ⟨_, rfl⟩
        have hcl : c < 4294967296 := by rw [hc]; exact cyM_lt hxl
        have QY := Lib.hid (Q0.out.grown GG.out (by simp; omega))
        by_cases hjl : j < mb
        · obtain ⟨y, hy⟩ : ∃ y, y = b / 4294967296 ^ j % 4294967296 := ⟨_, rfl⟩
          obtain ⟨o, ho⟩ : ∃ o, o = N / 4294967296 ^ (i + j) % 4294967296 := ⟨_, rfl⟩
          obtain ⟨N1, N2, N3, d, c', h1, h2, h3, h4, h5, n1, n2, n3, n4, n5, n6, h6, h7, h8, h9⟩ := mul_nums hxl HS.out hy ho hc
          have hyl : y < 4294967296 := by rw [hy]; exact dig_lt _ _
          have hol : o < 4294967296 := by rw [ho]; exact dig_lt _ _
          have cY : wr.cell? ⟨gb, j, none⟩ = some (.int .u32 y) := by rw [QY.out.cell, hy]; exact wC_at (wDig_at hjl)
          obtain ⟨p, hp⟩ : ∃ p, p = i + j := ⟨_, rfl⟩
          have hpi : (i : Int) + j = (p : Int) := by omega
          have hpm : p < ma + mb := by omega
          have hpm2 : (p : Int) < (ma : Int) + mb := by omega
          rw [← hp] at ZZ ho h7
          have cZ : wr.cell? ⟨gz, p, none⟩ = some (.int .u32 o) := by rw [ZZ.out.cell, ho]; exact wC_at (by rw [mPart_at hpm, if_neg (by omega)])
          have fZ := ZZ.out.frozen p
          have Z2 : Hid (Blk (wr.setCell ⟨gz, p, none⟩ (.int .u32 d)) gz 150 (wC (mPart (ma + mb) S N (i + (j + 1))))) := by
            unfold Hid
            rw [show i + (j + 1) = p + 1 by omega, mPart_step hpm h7, ← wC_set]
            exact ZZ.out.set_ p _
          have G2 := Lib.hid (grown_set GG.out p (.int .u32 d))
          have H6 : Hid ((.int .u64 (c' : Int) : Value) = .int .u64 (cyM N x b i (j + 1))) := by unfold Hid; rw [h6]
          rw [← hc]
          clear hy ho hc hp h6 h7
          go_wp2_with fail
          go_roundw
          case rel => exact ⟨j + 1, by go_num, by omega, H6.out, Z2, G2⟩
          case measure => simp [intOf]; omega
        · have hjm : j = mb := by omega
          subst hjm
          obtain ⟨e1, e2, e3, e4⟩ := cyM_last HX.out HN.out HS.out LB.out
          rw [← hc] at e1 ⊢
          obtain ⟨p, hp⟩ : ∃ p, p = i + j := ⟨_, rfl⟩
          have hpi : (i : Int) + j = (p : Int) := by omega
          have hpm : p < ma + j := by omega
          have hpm2 : (p : Int) < (ma : Int) + j := by omega
          rw [← hp] at ZZ e1 e3 e4
          have fZ := ZZ.out.frozen p
          obtain ⟨u, cZ⟩ : ∃ u, wr.cell? ⟨gz, p, none⟩ = some u := ⟨_, by rw [ZZ.out.cell]; exact Array.getElem?_eq_getElem (by simp [wC, mPart_len]; omega)⟩
          have Z2 : Hid (Blk (wr.setCell ⟨gz, p, none⟩ (.int .u32 (c : Int))) gz 150 (wC (wDig (ma + j) (a % 4294967296 ^ (i + 1) * b)))) := by
            unfold Hid
            have hz := ZZ.out.set_ p (.int .u32 (c : Int))
            rw [wC_set, ← mPart_step hpm e1, mPart_full (fun q hq => ?_), e2] at hz
            · exact hz
            · rw [dig_high e4 hq, dig_high e3 (by omega)]
          have G2 := Lib.hid (grown_set GG.out p (.int .u32 (c : Int)))
          clear hc hp e1 e2 e3 e4
          go_wp2_with fail
          go_roundw
          case rel => exact ⟨i + 1, by go_num, by omega, Z2, G2⟩
          case measure => simp [intOf]; omega
    · have him : i = ma := by omega
      subst him
      have ZF : Hid (Blk wr gz 150 (wC (wDig (i + mb) (a * b)))) := by
        unfold Hid
        have := ZZ.out
        rw [Nat.mod_eq_of_lt LA.out] at this
        exact this
      have HS : Hid (a * b < 256 ^ (4 * (i + mb))) := by
        unfold Hid
        rw [pow_big, Nat.pow_add]
        rcases Nat.eq_zero_or_pos b with h | h
        · subst h; exact Nat.mul_pos (pw_pos i) (pw_pos mb)
        · exact Nat.lt_of_lt_of_le (Nat.mul_lt_mul_of_pos_right LA.out h) (Nat.mul_le_mul_left _ (Nat.le_of_lt LB.out))
      have B4 := Lib.hid (B3.out.grown GG.out B3.out.size (fun k hk => by cases hk; exact hn3))
      clear ZZ
      go_wp2_with fail
      refine (text_any gz _ (i + mb) (a * b) _ (by omega) HS.out ZF.out).mono ?_
      rintro e w4 ⟨rfl, hb4⟩
      have B5 := Lib.hid (B4.out.trans (hb4.mono B4.out.size))
      clear hb4
      go_wp2_with fail
      go_ret
      exact ⟨rfl, B5.out⟩

set_option maxHeartbeats 1000000 in
theorem MulS_pad (s t : ByteArray) (y z a b : Nat) (w : World) (hs : Hid (s.data.toList = List.replicate y 0 ++ digs a)) (hs2 : s.size ≤ 1000000) (ht : Hid (t.data.toList = List.replicate z 0 ++ digs b)) (ht2 : t.size ≤ 1000000) (hl : (nS a).size + (nS b).size ≤ 8) :
    Calls Tryz.prog 124 #[.string s, .string t] w fun e w' => e = .returned (.string (nS (a * b))) ∧ Below w.heap.size w w' := by
  have ha : a < 256 ^ (nS a).size := digs_low (by rw [nS_size]; exact Nat.le_refl _)
  have hb : b < 256 ^ (nS b).size := digs_low (by rw [nS_size]; exact Nat.le_refl _)
  have hm : a * b < 18446744073709551616 := by
    have h1 : 256 ^ (nS a).size * 256 ^ (nS b).size ≤ 256 ^ 8 := by rw [← Nat.pow_add]; exact Nat.pow_le_pow_right (by decide) hl
    rcases Nat.eq_zero_or_pos b with h | h
    · subst h; simp
    · exact Nat.lt_of_lt_of_le (Nat.mul_lt_mul_of_pos_right ha h) (Nat.le_trans (Nat.mul_le_mul_left _ (Nat.le_of_lt hb)) h1)
  have a8 : a < 18446744073709551616 := Nat.lt_of_lt_of_le ha (show 256 ^ (nS a).size ≤ 256 ^ 8 from Nat.pow_le_pow_right (by decide) (by omega))
  have b8 : b < 18446744073709551616 := Nat.lt_of_lt_of_le hb (show 256 ^ (nS b).size ≤ 256 ^ 8 from Nat.pow_le_pow_right (by decide) (by omega))
  clear ha hb
  have hw : IntKind.u64.wrap ((a : Int) * b) = ((a * b : Nat) : Int) := by
    rw [← Int.natCast_mul, IntWalk.u64_in _ (by omega)]
  have HM := Lib.hid hm
  clear hm
  go_enter Tryz.func124, Tryz.ntmps124
  go_wp2_with fail
  refine (trim_pad s y a _ hs hs2).mono ?_
  rintro e w' ⟨rfl, rfl⟩
  go_wp2_with fail
  refine (trim_pad t z b _ ht ht2).mono ?_
  rintro e w' ⟨rfl, rfl⟩
  clear hs ht
  go_wp2_with fail
  refine (short_nS a _ a8).mono ?_
  rintro e w' ⟨rfl, rfl⟩
  go_wp2_with fail
  refine (short_nS b _ b8).mono ?_
  rintro e w' ⟨rfl, rfl⟩
  go_wp2_with fail
  refine (fromShort_any (a * b) _ HM.out).mono ?_
  rintro e w' ⟨rfl, hb2⟩
  have B2 := Lib.hid hb2
  clear hb2
  go_wp2_with fail
  go_ret
  exact ⟨rfl, B2.out⟩
theorem Mul_pad (s t : ByteArray) (y z a b : Nat) (w : World) (hs : Hid (s.data.toList = List.replicate y 0 ++ digs a)) (hs2 : s.size ≤ 1000000) (ht : Hid (t.data.toList = List.replicate z 0 ++ digs b)) (ht2 : t.size ≤ 1000000) (ha : (nS a).size ≤ 50000) (hb : (nS b).size ≤ 50000) :
    Calls Tryz.prog 124 #[.string s, .string t] w fun e w' => e = .returned (.string (nS (a * b))) ∧ Below w.heap.size w w' := by
  by_cases hl : (nS a).size + (nS b).size ≤ 8
  · exact MulS_pad s t y z a b w hs hs2 ht ht2 hl
  · exact MulL_pad s t y z a b w hs hs2 ht ht2 ha hb hl
end Go.Proofs.YtaiokjhjakdhaaaGreatDoor

namespace Go.Proofs.YtaiokjhjakdhaaaGreatDoor
open Go.RowKit
set_option linter.unusedVariables false
set_option maxRecDepth 100000

set_option maxHeartbeats 2000000 in
theorem text_pre (ga c m M n : Nat) (w : World) (hm : m ≤ 30000) (hM : m ≤ M) (hn : n < 256 ^ (4 * m)) (hX : Blk w ga 150 (wC (wDig M n))) :
    Calls Tryz.prog 118 #[.slice (some ⟨ga, 0, none⟩) m c] w fun e w' => e = .returned (.string (nS n)) ∧ Below w.heap.size w w' := by
  have hmk := run_make_row' (P := Tryz.prog) 95 5 (.int .u8 0) 1 Tryz.underlying95 info_u8 rfl .i64 .i64 (4 * m) (by omega) (by omega)
  have hm4 : (((4 * m : Nat) : Int)) = 4 * (m : Int) := by omega
  rw [hm4] at hmk
  have HN := Lib.hid hn
  clear hn hm4
  have X0 : Hid (Blk (w.alloc (.cells (madeCells #[.int .u8 0] (4 * m)) 5)) w.heap.size 5 (bC (tPart m n 0))) := by
    have e : madeCells #[.int .u8 0] (4 * m) = bC (tPart m n 0) := by
      rw [tPart_zero]
      apply Array.ext
      · simp [size_madeCells, bC]
      · intro i h1 h2
        simp [madeCells, Nat.mod_one, bC]
    unfold Hid
    rw [← e]
    exact Blk.new _ _ _
  have B0 := Lib.hid ((Below.refl w.heap.size w).alloc (Nat.le_refl _) (.cells (madeCells #[.int .u8 0] (4 * m)) 5))
  have Y := Lib.hid hX
  clear hX
  go_enter Tryz.func118, Tryz.ntmps118
  go_wp2_with fail
  clear hmk
  go_loopw [13] (fun i wr => ∃ k : Nat, i = .int .i64 k ∧ k ≤ m ∧ Hid (Blk wr w.heap.size 5 (bC (tPart m n k))) ∧ Hid (Below w.heap.size w wr)) (fun i _ => m - (intOf i).toNat)
  case atStart => exact ⟨0, rfl, by omega, X0, B0⟩
  case round =>
    clear X0 B0
    obtain ⟨k, rfl, hk, X, B⟩ := hrel
    by_cases hlt : k < m
    · obtain ⟨p, hp, hst⟩ := tPart_step (n := n) hlt
      have cw : wr.cell? ⟨ga, k, none⟩ = some (.int .u32 ((n / 4294967296 ^ k % 4294967296 : Nat) : Int)) := by
        rw [(Y.out.below B.out Y.out.lt).cell]
        exact wC_at (wDig_at (by omega))
      obtain ⟨x, hx⟩ : ∃ x, x = n / 4294967296 ^ k % 4294967296 := ⟨_, rfl⟩
      rw [← hx] at cw hst
      have hxl : x < 4294967296 := by rw [hx]; exact Nat.mod_lt _ (by decide)
      have e1 : 4 * ((m : Int) - 1 - k) = (p : Int) := by omega
      have hp4 : p + 3 < 4 * m := by omega
      have hp5 : (p : Int) + 3 < 4 * m := by omega
      have fz0 := X.out.frozen p
      have fz1 := X.out.frozen (p + 1)
      have fz2 := X.out.frozen (p + 2)
      have fz3 := X.out.frozen (p + 3)
      have at_ : ∀ j, j < 4 * m → ∃ u, wr.cell? ⟨w.heap.size, j, none⟩ = some u := fun j hj => by
        rw [X.out.cell]
        exact ⟨_, Array.getElem?_eq_getElem (by simp [bC, tPart_len]; exact hj)⟩
      obtain ⟨u0, cu0⟩ := at_ p (by omega)
      obtain ⟨u1, cu1⟩ := at_ (p + 1) (by omega)
      obtain ⟨u2, cu2⟩ := at_ (p + 2) (by omega)
      obtain ⟨u3, cu3⟩ := at_ (p + 3) (by omega)
      have HST := Lib.hid hst
      clear hx hst hp at_
      have X2 : Hid (Blk ((((wr.setCell ⟨w.heap.size, p, none⟩ (.int .u8 ((x : Int) / 16777216))).setCell ⟨w.heap.size, p + 1, none⟩ (.int .u8 ((x : Int) / 65536 % 256))).setCell ⟨w.heap.size, p + 2, none⟩ (.int .u8 ((x : Int) / 256 % 256))).setCell ⟨w.heap.size, p + 3, none⟩ (.int .u8 ((x : Int) % 256))) w.heap.size 5 (bC (tPart m n (k + 1)))) := by
        unfold Hid
        rw [HST.out, ← bC_set, ← bC_set, ← bC_set, ← bC_set]
        have v0 : (x : Int) / 16777216 = ((x / 16777216 % 256 : Nat) : Int) := by omega
        have v1 : (x : Int) / 65536 % 256 = ((x / 65536 % 256 : Nat) : Int) := by omega
        have v2 : (x : Int) / 256 % 256 = ((x / 256 % 256 : Nat) : Int) := by omega
        have v3 : (x : Int) % 256 = ((x % 256 : Nat) : Int) := by omega
        rw [v0, v1, v2, v3]
        exact (((X.out.set_ p _).set_ (p + 1) _).set_ (p + 2) _).set_ (p + 3) _
      have B2 : Hid (Below w.heap.size w ((((wr.setCell ⟨w.heap.size, p, none⟩ (.int .u8 ((x : Int) / 16777216))).setCell ⟨w.heap.size, p + 1, none⟩ (.int .u8 ((x : Int) / 65536 % 256))).setCell ⟨w.heap.size, p + 2, none⟩ (.int .u8 ((x : Int) / 256 % 256))).setCell ⟨w.heap.size, p + 3, none⟩ (.int .u8 ((x : Int) % 256)))) :=
        (((B.out.setCell (p := ⟨w.heap.size, p, none⟩) (Nat.le_refl _) _).setCell (p := ⟨w.heap.size, p + 1, none⟩) (Nat.le_refl _) _).setCell (p := ⟨w.heap.size, p + 2, none⟩) (Nat.le_refl _) _).setCell (p := ⟨w.heap.size, p + 3, none⟩) (Nat.le_refl _) _
      go_wp2_with fail
      go_roundw
      case rel => exact ⟨k + 1, by go_num, by omega, X2, B2⟩
      case measure => simp [intOf]; omega
    · have hkm : k = m := by omega
      subst hkm
      obtain ⟨z, hz⟩ := bePad_eq (4 * k) n HN.out
      have hl : (bePad (4 * k) n).length = 4 * k := by simp [bePad]
      have cv := run_convert_bytes_back (P := Tryz.prog) wr 95 9 5 ⟨w.heap.size, 0, none⟩ (4 * k) (bePad (4 * k) n) Tryz.underlying95 Tryz.underlying5 Tryz.underlying9 (fun j hj => by
        rw [Addr.add_lit, Nat.zero_add, X.out.cell, tPart_all]
        simp only [bC, List.map_map, List.getElem?_toArray, List.getElem?_map, List.getElem?_eq_getElem hj, Option.map_some]
        rfl)
      rw [hl] at cv
      have HZ : Hid ((⟨(bePad (4 * k) n).toArray⟩ : ByteArray).data.toList = List.replicate z 0 ++ digs n) := hz
      have hsz : (⟨(bePad (4 * k) n).toArray⟩ : ByteArray).size ≤ 1000000 := by rw [ba_size]; simp only [hl]; omega
      clear hz hl
      go_wp2_with fail
      refine (trim_pad _ z n _ HZ hsz).mono ?_
      rintro e w2 ⟨rfl, rfl⟩
      go_wp2
      go_ret
      exact ⟨rfl, B.out⟩


theorem grown_drew {w wr : World} {r : Option Nat} (h : w.grownBy wr r) : w.grownBy wr.drew r := h.trans ⟨rfl, rfl, rfl, Nat.le_refl _, fun _ _ _ => rfl⟩
theorem mPart_back {M S N p d : Nat} (h : p < M) (hd : N / 4294967296 ^ p % 4294967296 = d) : mPart M S N p = (mPart M S N (p + 1)).set p d := by
  apply List.ext_getElem?
  intro j
  rw [List.getElem?_set]
  by_cases hj : j < M
  · rw [mPart_at hj, mPart_at hj]
    by_cases h1 : p = j
    · subst h1; rw [if_pos rfl, if_neg (by omega), if_pos (by rw [mPart_len]; exact h), hd]
    · rw [if_neg h1]
      by_cases h2 : j < p
      · rw [if_pos h2, if_pos (by omega)]
      · rw [if_neg h2, if_neg (by omega)]
  · rw [List.getElem?_eq_none (by simp [mPart]; omega), if_neg (by omega), List.getElem?_eq_none (by simp [mPart]; omega)]
theorem mPart_none (M S N : Nat) : mPart M S N 0 = wDig M N := mPart_same (fun j hj => absurd hj (by omega))
theorem mPart_tot (M S N : Nat) : mPart M S N M = wDig M S := by
  unfold mPart wDig
  exact List.map_congr_left fun j hj => by rw [List.mem_range] at hj; rw [if_pos hj]
theorem quo_step {X b k r x : Nat} (hb : 0 < b) (hbl : b < 4294967296) (hr : r = X / 4294967296 ^ (k + 1) % b) (hx : x = X / 4294967296 ^ k % 4294967296) :
    (r * 4294967296 + x) / b < 4294967296 ∧ X / b / 4294967296 ^ k % 4294967296 = (r * 4294967296 + x) / b ∧ X / 4294967296 ^ k % b = (r * 4294967296 + x) % b ∧ r < b := by
  have hrl : r < b := by rw [hr]; exact Nat.mod_lt _ hb
  have hxl : x < 4294967296 := by rw [hx]; exact dig_lt _ _
  have e1 : X / 4294967296 ^ k = 4294967296 * (X / 4294967296 ^ (k + 1)) + x := by
    have := Nat.div_add_mod (X / 4294967296 ^ k) 4294967296
    rw [Nat.pow_succ, ← Nat.div_div_eq_div_mul, hx]
    omega
  have e2 := Nat.div_add_mod (X / 4294967296 ^ (k + 1)) b
  rw [← hr] at e2
  obtain ⟨u, hu⟩ : ∃ u, u = X / 4294967296 ^ (k + 1) / b := ⟨_, rfl⟩
  rw [← hu] at e2
  have e3 : X / 4294967296 ^ k = b * (4294967296 * u) + (r * 4294967296 + x) := by
    rw [e1, ← e2, Nat.mul_add, show 4294967296 * (b * u) = b * (4294967296 * u) by ac_rfl]
    omega
  have hq : (r * 4294967296 + x) / b < 4294967296 := by
    rw [Nat.div_lt_iff_lt_mul hb]
    have : (r + 1) * 4294967296 ≤ b * 4294967296 := Nat.mul_le_mul_right _ hrl
    rw [Nat.mul_comm 4294967296 b]
    omega
  refine ⟨hq, ?_, ?_, hrl⟩
  · rw [Nat.div_div_eq_div_mul, Nat.mul_comm b, ← Nat.div_div_eq_div_mul, e3, Nat.mul_add_div hb, Nat.mul_add_mod]
    exact Nat.mod_eq_of_lt hq
  · rw [e3, Nat.mul_add_mod]
theorem shl_or (r x : Nat) (hr : r < 4294967296) (hx : x < 4294967296) : bits .or .u64 (((r * 4294967296 : Nat)) : Int) (x : Int) = ((r * 4294967296 + x : Nat) : Int) := by
  rw [u64_or_nat (r * 4294967296) x (by omega) (by omega)]
  have := Nat.shiftLeft_add_eq_or_of_lt (b := x) (i := 32) hx r
  rw [Nat.shiftLeft_eq] at this
  rw [← this]
theorem div_nums {X b k r x : Nat} (hb : 0 < b) (hbl : b < 4294967296) (hr : r = X / 4294967296 ^ (k + 1) % b) (hx : x = X / 4294967296 ^ k % 4294967296) :
    ∃ (T : Int) (d r' : Nat), bits .or .u64 ((r : Int) * 4294967296) (x : Int) = T ∧ IntKind.u64.wrap (T / b) = d ∧ T / b = d ∧ T % b = r' ∧ IntKind.u64.wrap (T % b) = r' ∧ 0 ≤ T ∧ T ≤ 18446744073709551615 ∧ d < 4294967296 ∧ X / b / 4294967296 ^ k % 4294967296 = d ∧ r' = X / 4294967296 ^ k % b ∧ r' < b := by
  obtain ⟨h1, h2, h3, h4⟩ := quo_step hb hbl hr hx
  have hxl : x < 4294967296 := by rw [hx]; exact dig_lt _ _
  have h5 : (r * 4294967296 + x) % b < b := Nat.mod_lt _ hb
  have hT := shl_or r x (by omega) hxl
  rw [show (((r * 4294967296 : Nat)) : Int) = (r : Int) * 4294967296 by omega] at hT
  have hd : ((r * 4294967296 + x : Nat) : Int) / b = (((r * 4294967296 + x) / b : Nat) : Int) := (Int.natCast_ediv _ _).symm
  have hm : ((r * 4294967296 + x : Nat) : Int) % b = (((r * 4294967296 + x) % b : Nat) : Int) := (Int.natCast_emod _ _).symm
  exact ⟨_, _, _, hT, by rw [hd]; exact IntWalk.u64_in _ (by omega), hd, hm, by rw [hm]; exact IntWalk.u64_in _ (by omega), by omega, by omega, h1, h2, h3.symm, h5⟩

set_option maxHeartbeats 4000000 in
theorem DivW_any (a b : Nat) (w : World) (ha : (nS a).size ≤ 100000) (h8 : ¬ (nS a).size ≤ 8) (hb0 : 0 < b) (hbl : b < 4294967296) :
    Calls Tryz.prog 101 #[.string (nS a), .string (nS b)] w fun e w' => e = .returned (.tuple #[.string (nS (a / b)), .string (nS (a % b)), .int .i64 0]) ∧ Below w.heap.size w w' := by
  have sb : (nS b).size ≤ 4 := by rw [nS_size]; exact digs_len (k := 4) hbl
  have sb1 : 0 < (nS b).size := by
    rcases Nat.eq_zero_or_pos (nS b).size with h | h
    · have h2 := nS_empty.1 h
      omega
    · exact h
  obtain ⟨m, hm⟩ : ∃ m, m = ((nS a).size + 3) / 4 := ⟨_, rfl⟩
  have la : a < 4294967296 ^ m := by rw [hm]; exact nS_low a
  have WA := fun w => words_any a w ha
  have WB := fun w => words_any b w (by omega)
  rw [← hm] at WA
  have hmb : ((nS b).size + 3) / 4 = 1 := by omega
  rw [hmb] at WB
  have m1 : m ≤ 25000 := by omega
  have m0 : 2 ≤ m := by omega
  have hab : b ≤ a := by
    rcases Nat.lt_or_ge a b with h | h
    · have := digs_len_mono (Nat.le_of_lt h)
      rw [nS_size] at h8 sb
      omega
    · exact h
  obtain ⟨r, hr⟩ : ∃ r, cmpN a b = r := ⟨_, rfl⟩
  have hr0 : 0 ≤ r := by rw [← hr, cmpN]; split; omega; split <;> omega
  have HR := Lib.hid hr
  have HA := Lib.hid ha
  have LA := Lib.hid la
  have HNE := Lib.hid (nS_ne hb0)
  have hne := HNE.out
  have hbz : ((b : Int) == 0) = false := by rw [beq_eq_false_iff_ne]; omega
  clear hr hm la hmb ha
  go_enter Tryz.func101, Tryz.ntmps101
  go_wp2_with fail
  refine (trim_nS a _ HA.out).mono ?_
  rintro e w' ⟨rfl, rfl⟩
  go_wp2_with fail
  refine (trim_nS b _ (by omega)).mono ?_
  rintro e w' ⟨rfl, rfl⟩
  go_wp2_with fail
  refine (Cmp_any a b r _ HA.out (by omega) HR).mono ?_
  rintro e w' ⟨rfl, rfl⟩
  go_wp2_with fail
  refine (WA _).mono ?_
  rintro e w1 ⟨ga, rfl, hga, hX, hb1⟩
  have X1 := Lib.hid hX
  have B1 := Lib.hid hb1
  clear hX hb1
  go_wp2_with fail
  refine (WB _).mono ?_
  rintro e w2 ⟨gb, rfl, hgb, hY, hb2⟩
  have X2 : Hid (Blk w2 ga 150 (wC (mPart m a (a / b) m))) := by unfold Hid; rw [mPart_tot]; exact X1.out.below hb2 X1.out.lt
  have Y2 := Lib.hid hY
  have B2 := Lib.hid (B1.out.trans (hb2.mono B1.out.size))
  have hgn : ga < gb := Nat.lt_of_lt_of_le X1.out.lt hgb
  have hgb2 : w.heap.size ≤ gb := Nat.le_trans hga (by omega)
  clear hY hb2 X1 B1 WA WB hgb
  go_wp2_with fail
  obtain ⟨i0, hi0⟩ : ∃ i0 : Int, i0 = (m : Int) - 1 := ⟨_, rfl⟩
  rw [← hi0]
  go_loopw [9, 10] (fun c i wr => ∃ k : Nat, i = .int .i64 ((k : Int) - 1) ∧ k ≤ m ∧ c = .int .u64 (a / 4294967296 ^ k % b : Nat) ∧ Hid (Blk wr ga 150 (wC (mPart m a (a / b) k))) ∧ Hid (w2.grownBy wr (some ga))) (fun _ i _ => (intOf i + 1).toNat)
  case atStart => exact ⟨m, by rw [hi0], by omega, by rw [Nat.div_eq_of_lt LA.out, Nat.zero_mod]; rfl, X2, World.grownBy.refl w2 _⟩
  case round =>
    clear X2 hi0
    obtain ⟨k, rfl, hk, rfl, ZZ, GG⟩ := hrel
    have PY := Lib.hid (Y2.out.grown GG.out (by simp; omega))
    cases k with
    | succ j =>
      obtain ⟨x, hx⟩ : ∃ x, x = a / 4294967296 ^ j % 4294967296 := ⟨_, rfl⟩
      obtain ⟨r, hr⟩ : ∃ r, r = a / 4294967296 ^ (j + 1) % b := ⟨_, rfl⟩
      have hrb : r < b := by rw [hr]; exact Nat.mod_lt _ hb0
      have hxl : x < 4294967296 := by rw [hx]; exact dig_lt _ _
      obtain ⟨T, d, r', h1, h2, h3, h4, h5, n1, n2, n3, h6, h7, h8'⟩ := div_nums hb0 hbl hr hx
      have cX : wr.cell? ⟨ga, j, none⟩ = some (.int .u32 x) := by rw [ZZ.out.cell, hx]; exact wC_at (by rw [mPart_at (by omega), if_pos (by omega)])
      have fX := ZZ.out.frozen j
      have cB : wr.cell? ⟨gb, 0, none⟩ = some (.int .u32 b) := by
        rw [PY.out.cell]
        have := wDig_at (m := 1) (n := b) (j := 0) (by omega)
        rw [Nat.pow_zero, Nat.div_one, Nat.mod_eq_of_lt hbl] at this
        exact wC_at this
      have Z2 : Hid (Blk (wr.setCell ⟨ga, j, none⟩ (.int .u32 d)) ga 150 (wC (mPart m a (a / b) j))) := by
        unfold Hid
        rw [mPart_back (by omega) h6, ← wC_set]
        exact ZZ.out.set_ j _
      have G2 := Lib.hid (grown_set GG.out j (.int .u32 d))
      have H7 : Hid ((.int .u64 (r' : Int) : Value) = .int .u64 (a / 4294967296 ^ j % b : Nat)) := by unfold Hid; rw [h7]
      rw [← hr]
      have hj1 : ((j + 1 : Nat) : Int) - 1 = (j : Int) := by omega
      rw [hj1]
      clear hx hr h6 h7 hj1
      go_wp2_with fail
      go_region
      go_wp2_with fail
      go_roundw
      case rel => exact ⟨j, by go_num, by omega, by rw [h4]; exact H7.out, Z2, grown_drew G2.out⟩
      case measure => simp [intOf]
    | zero =>
      have ZF : Hid (Blk wr ga 150 (wC (wDig m (a / b)))) := by unfold Hid; rw [← mPart_none m a]; exact ZZ.out
      obtain ⟨r, hr⟩ : ∃ r, r = a % b := ⟨_, rfl⟩
      have hrb : r < b := by rw [hr]; exact Nat.mod_lt _ hb0
      have B3 := Lib.hid (B2.out.grown GG.out B2.out.size (fun k hk => by cases hk; exact hga))
      have HQ : Hid (a / b < 256 ^ (4 * m)) := by unfold Hid; rw [pow_big]; exact Nat.lt_of_le_of_lt (Nat.div_le_self a b) LA.out
      rw [Nat.pow_zero, Nat.div_one, ← hr]
      have HR2 := Lib.hid hr
      clear hr ZZ
      go_wp2_with fail
      refine (text_pre ga _ m m (a / b) _ (by omega) (Nat.le_refl _) HQ.out ZF.out).mono ?_
      rintro e w4 ⟨rfl, hb4⟩
      have B4 := Lib.hid (B3.out.trans (hb4.mono B3.out.size))
      clear hb4 B3
      go_wp2_with fail
      refine (fromShort_any r _ (by omega)).mono ?_
      rintro e w5 ⟨rfl, hb5⟩
      have B5 := Lib.hid (B4.out.trans (hb5.mono B4.out.size))
      clear hb5
      go_wp2_with fail
      go_ret3
      exact ⟨by rw [← HR2.out]; rfl, B5.out⟩
end Go.Proofs.YtaiokjhjakdhaaaGreatDoor

namespace Go.Proofs.YtaiokjhjakdhaaaGreatDoor
open Go.RowKit
set_option linter.unusedVariables false
set_option maxRecDepth 100000

theorem two32 {s : Nat} (hs : s ≤ 32) : 4294967296 = 2 ^ s * 2 ^ (32 - s) := by
  rw [← Nat.pow_add, show s + (32 - s) = 32 by omega]
theorem or_low {o t s : Nat} (h : o < 2 ^ s) : o ||| 2 ^ s * t = o + 2 ^ s * t := by
  have := Nat.shiftLeft_add_eq_or_of_lt (b := o) (i := s) h t
  rw [Nat.shiftLeft_eq] at this
  rw [Nat.or_comm, Nat.mul_comm, ← this, Nat.add_comm]
/-- What a round of left computes. -/
theorem left_nums {X i s x o m : Nat} (hs : s ≤ 31) (hx : x = X / 4294967296 ^ i % 4294967296) (ho : o = X % 4294967296 ^ i * 2 ^ s / 4294967296 ^ i % 4294967296) :
    ∃ V v0 v1 d : Nat, IntKind.u64.wrap ((x : Int) * 2 ^ s) = (V : Int) ∧ (V : Int) % 4294967296 = (v0 : Int) ∧ (V : Int) / 4294967296 = (v1 : Int) ∧ bits .or .u32 (o : Int) (v0 : Int) = (d : Int) ∧ V ≤ 18446744073709551615 ∧ v0 < 4294967296 ∧ v1 < 4294967296 ∧ d < 4294967296 ∧
      (i < m → wDig (m + 1) (X % 4294967296 ^ (i + 1) * 2 ^ s) = ((wDig (m + 1) (X % 4294967296 ^ i * 2 ^ s)).set i d).set (i + 1) v1) := by
  have hxl : x < 4294967296 := by rw [hx]; exact dig_lt X i
  have hA := pw_pos i
  have hS : 0 < 2 ^ s := Nat.pow_pos (by decide)
  have hSl : 2 ^ s ≤ 2147483648 := show 2 ^ s ≤ 2 ^ 31 from Nat.pow_le_pow_right (by decide) hs
  have h32 := two32 (s := s) (by omega)
  have m1 := mod_succ X i
  rw [← hx] at m1
  have hV : x * 2 ^ s ≤ 4294967295 * 2147483648 := Nat.mul_le_mul (by omega) hSl
  have hr := Nat.mod_lt X hA
  -- the part below
  have hol : X % 4294967296 ^ i * 2 ^ s / 4294967296 ^ i < 2 ^ s := by
    rw [Nat.div_lt_iff_lt_mul hA, Nat.mul_comm (2 ^ s)]
    exact Nat.mul_lt_mul_of_pos_right hr hS
  have ho2 : o = X % 4294967296 ^ i * 2 ^ s / 4294967296 ^ i := by rw [ho]; exact Nat.mod_eq_of_lt (by omega)
  have hv0 : x * 2 ^ s % 4294967296 = 2 ^ s * (x % 2 ^ (32 - s)) := by
    conv => lhs; rw [h32, Nat.mul_comm x]
    exact Nat.mul_mod_mul_left _ _ _
  have hor := or_low (o := o) (t := x % 2 ^ (32 - s)) (s := s) (by rw [ho2]; exact hol)
  rw [← hv0] at hor
  have hsum : o + x * 2 ^ s % 4294967296 < 4294967296 := by
    have h1 : x % 2 ^ (32 - s) + 1 ≤ 2 ^ (32 - s) := Nat.mod_lt x (Nat.pow_pos (by decide))
    have h2 : 2 ^ s * (x % 2 ^ (32 - s) + 1) ≤ 2 ^ s * 2 ^ (32 - s) := Nat.mul_le_mul_left _ h1
    rw [← h32, Nat.mul_add, ← hv0] at h2
    rw [← ho2] at hol
    omega
  have hpi : ((2 : Int) ^ s) = ((2 ^ s : Nat) : Int) := by rw [Int.natCast_pow]; rfl
  have hcast : (x : Int) * 2 ^ s = ((x * 2 ^ s : Nat) : Int) := by rw [hpi, Int.natCast_mul]
  have e := Nat.div_add_mod (x * 2 ^ s) 4294967296
  generalize hVV : x * 2 ^ s = V at *
  refine ⟨V, V % 4294967296, V / 4294967296, o + V % 4294967296, ?_, by omega, by omega, ?_, by omega, by omega, by omega, hsum, fun him => ?_⟩
  · rw [hcast]; exact IntWalk.u64_in _ (by omega)
  · rw [u32_or_nat o (V % 4294967296) (by omega) (by omega), hor]
  · -- the new number
    have hN : X % 4294967296 ^ (i + 1) * 2 ^ s = X % 4294967296 ^ i * 2 ^ s + 4294967296 ^ i * V := by
      rw [m1, Nat.add_mul, ← hVV]; congr 1; ac_rfl
    have dN := Nat.div_add_mod (X % 4294967296 ^ i * 2 ^ s) (4294967296 ^ i)
    rw [← ho2] at dN
    have dr := Nat.mod_lt (X % 4294967296 ^ i * 2 ^ s) hA
    rw [hN]
    generalize X % 4294967296 ^ i * 2 ^ s = N at *
    have hdiv : (N + 4294967296 ^ i * V) / 4294967296 ^ i = o + V := by
      rw [Nat.add_mul_div_left _ _ hA, ho2]
    have hN2 : N < 4294967296 ^ (i + 1) := by
      rw [Nat.pow_succ]
      have : 4294967296 ^ i * (o + 1) ≤ 4294967296 ^ i * 4294967296 := Nat.mul_le_mul_left _ (by omega)
      rw [Nat.mul_add] at this
      omega
    have hov : (o + V) / 4294967296 = V / 4294967296 := by omega
    apply List.ext_getElem?
    intro j
    rw [List.getElem?_set, List.getElem?_set, List.length_set, show (wDig (m + 1) N).length = m + 1 by simp [wDig]]
    by_cases hj : j < m + 1
    · rw [wDig_at hj, wDig_at hj]
      by_cases h1 : i + 1 = j
      · subst h1
        rw [if_pos rfl, if_pos (by omega), Nat.pow_succ, ← Nat.div_div_eq_div_mul, hdiv, hov]
        congr 1
        exact Nat.mod_eq_of_lt (by omega)
      · rw [if_neg h1]
        by_cases h2 : i = j
        · subst h2
          rw [if_pos rfl, if_pos (by omega), hdiv]
          congr 1
          omega
        · rw [if_neg h2]
          congr 1
          rcases Nat.lt_or_ge j i with h3 | h3
          · have hp : 4294967296 ^ i = 4294967296 ^ j * (4294967296 * 4294967296 ^ (i - j - 1)) := by
              conv => lhs; rw [show i = j + (1 + (i - j - 1)) by omega, Nat.pow_add, Nat.pow_add, Nat.pow_one]
            rw [hp, Nat.mul_assoc, Nat.mul_assoc, Nat.add_mul_div_left _ _ (pw_pos j), Nat.add_mul_mod_self_left]
          · have hN3 : N + 4294967296 ^ i * V < 4294967296 ^ (i + 2) := by
              rw [Nat.pow_succ, Nat.pow_succ, Nat.mul_assoc]
              have : 4294967296 ^ i * (o + V + 1) ≤ 4294967296 ^ i * (4294967296 * 4294967296) := Nat.mul_le_mul_left _ (by omega)
              simp only [Nat.mul_add] at this
              omega
            rw [dig_high hN3 (by omega), dig_high hN2 (by omega)]
    · rw [List.getElem?_eq_none (by simp [wDig]; omega), if_neg (by omega), if_neg (by omega), List.getElem?_eq_none (by simp [wDig]; omega)]

set_option maxHeartbeats 4000000 in
theorem left_any (gx cx m X s : Nat) (w : World) (hm : m ≤ 30000) (hs : s ≤ 31) (hX : Blk w gx 150 (wC (wDig m X))) (hXl : X < 4294967296 ^ m) :
    Calls Tryz.prog 136 #[.slice (some ⟨gx, 0, none⟩) m cx, .int .i64 s] w fun e w' => ∃ g, e = .returned (.slice (some ⟨g, 0, none⟩) (m + 1 : Nat) (m + 1 : Nat)) ∧ w.heap.size ≤ g ∧ Blk w' g 150 (wC (wDig (m + 1) (X * 2 ^ s))) ∧ Below w.heap.size w w' := by
  have LX := Lib.hid hXl
  have X0 := Lib.hid hX
  clear hX hXl
  have hmk := run_make_row' (P := Tryz.prog) 146 150 (.int .u32 0) 4 Tryz.underlying146 info_u32 rfl .i64 .i64 (m + 1) (by omega) (by omega)
  have hmc : (((m + 1 : Nat)) : Int) = (m : Int) + 1 := by omega
  rw [hmc] at hmk
  have Z0 : Hid (Blk (w.alloc (.cells (madeCells #[.int .u32 0] (m + 1)) 150)) w.heap.size 150 (wC (wDig (m + 1) (X % 4294967296 ^ 0 * 2 ^ s)))) := by
    have e : wDig (m + 1) (X % 4294967296 ^ 0 * 2 ^ s) = List.replicate (m + 1) 0 := by
      rw [← aPart_zero (m + 1) 0]
      unfold wDig aPart
      refine List.map_congr_left fun j _ => ?_
      rw [Nat.pow_zero, Nat.mod_one, Nat.zero_mul, Nat.zero_div, if_neg (by omega)]
    unfold Hid
    rw [e, ← made_wC]
    exact Blk.new _ _ _
  have B0 := Lib.hid ((Below.refl w.heap.size w).alloc (Nat.le_refl _) (.cells (madeCells #[.int .u32 0] (m + 1)) 150))
  clear hmc
  go_enter Tryz.func136, Tryz.ntmps136
  go_wp2_with fail
  clear hmk
  go_loopw [15] (fun i wr => ∃ k : Nat, i = .int .i64 k ∧ k ≤ m ∧ Hid (Blk wr w.heap.size 150 (wC (wDig (m + 1) (X % 4294967296 ^ k * 2 ^ s)))) ∧ Hid (Below w.heap.size w wr)) (fun i _ => m - (intOf i).toNat)
  case atStart => exact ⟨0, rfl, by omega, Z0, B0⟩
  case round =>
    clear Z0 B0
    obtain ⟨i, rfl, hi, Z, B⟩ := hrel
    by_cases hlt : i < m
    · obtain ⟨x, hx⟩ : ∃ x, x = X / 4294967296 ^ i % 4294967296 := ⟨_, rfl⟩
      obtain ⟨o, ho⟩ : ∃ o, o = X % 4294967296 ^ i * 2 ^ s / 4294967296 ^ i % 4294967296 := ⟨_, rfl⟩
      obtain ⟨V, v0, v1, d, h1, h2, h3, h4, n1, n2, n3, n4, h5⟩ := left_nums (m := m) hs hx ho
      have hxl : x < 4294967296 := by rw [hx]; exact dig_lt _ _
      have hol : o < 4294967296 := by rw [ho]; exact dig_lt _ _
      have cX : wr.cell? ⟨gx, i, none⟩ = some (.int .u32 x) := by rw [(X0.out.below B.out X0.out.lt).cell, hx]; exact wC_at (wDig_at hlt)
      have cZ : wr.cell? ⟨w.heap.size, i, none⟩ = some (.int .u32 o) := by rw [Z.out.cell, ho]; exact wC_at (wDig_at (by omega))
      have fZ := Z.out.frozen i
      obtain ⟨u, cZ1⟩ : ∃ u, wr.cell? ⟨w.heap.size, i + 1, none⟩ = some u := ⟨_, by rw [Z.out.cell]; exact Array.getElem?_eq_getElem (by simp [wC, wDig]; omega)⟩
      have fZ1 := Z.out.frozen (i + 1)
      have Z2 : Hid (Blk ((wr.setCell ⟨w.heap.size, i, none⟩ (.int .u32 d)).setCell ⟨w.heap.size, i + 1, none⟩ (.int .u32 v1)) w.heap.size 150 (wC (wDig (m + 1) (X % 4294967296 ^ (i + 1) * 2 ^ s)))) := by
        unfold Hid
        rw [h5 hlt, ← wC_set, ← wC_set]
        exact (Z.out.set_ i _).set_ (i + 1) _
      have B2 : Hid (Below w.heap.size w ((wr.setCell ⟨w.heap.size, i, none⟩ (.int .u32 d)).setCell ⟨w.heap.size, i + 1, none⟩ (.int .u32 v1))) := (B.out.setCell (p := ⟨w.heap.size, i, none⟩) (Nat.le_refl _) _).setCell (p := ⟨w.heap.size, i + 1, none⟩) (Nat.le_refl _) _
      clear hx ho h5
      go_wp2_with fail
      go_roundw
      case rel => exact ⟨i + 1, by go_num, by omega, Z2, B2⟩
      case measure => simp [intOf]; omega
    · have him : i = m := by omega
      subst him
      have ZF : Hid (Blk wr w.heap.size 150 (wC (wDig (i + 1) (X * 2 ^ s)))) := by
        have := Z.out
        rw [Nat.mod_eq_of_lt LX.out] at this
        exact this
      go_wp2_with fail
      go_ret
      exact ⟨w.heap.size, rfl, Nat.le_refl _, ZF.out, B.out⟩
end Go.Proofs.YtaiokjhjakdhaaaGreatDoor

namespace Go.Proofs.YtaiokjhjakdhaaaGreatDoor
open Go.RowKit
set_option linter.unusedVariables false
set_option maxRecDepth 100000

/-- From k on, i digits are those of Z; all others are those of U. -/
def kPart (M U Z k i : Nat) : List Nat := (List.range M).map fun j => if k ≤ j ∧ j < k + i then Z / 4294967296 ^ (j - k) % 4294967296 else U / 4294967296 ^ j % 4294967296
theorem kPart_len (M U Z k i : Nat) : (kPart M U Z k i).length = M := by simp [kPart]
theorem kPart_at {M U Z k i j : Nat} (h : j < M) : (kPart M U Z k i)[j]? = some (if k ≤ j ∧ j < k + i then Z / 4294967296 ^ (j - k) % 4294967296 else U / 4294967296 ^ j % 4294967296) := by
  unfold kPart; rw [List.getElem?_map, List.getElem?_range h]; rfl
theorem kPart_zero (M U Z k : Nat) : kPart M U Z k 0 = wDig M U := by
  unfold kPart wDig
  exact List.map_congr_left fun j _ => by rw [if_neg (by omega)]
theorem kPart_next {M U Z k i : Nat} (h : k + i < M) : (kPart M U Z k i)[k + i]? = some (U / 4294967296 ^ k / 4294967296 ^ i % 4294967296) := by
  rw [kPart_at h, if_neg (by omega), Nat.div_div_eq_div_mul, ← Nat.pow_add]
theorem kPart_step {M U Z k i d : Nat} (h : k + i < M) (hd : Z / 4294967296 ^ i % 4294967296 = d) : kPart M U Z k (i + 1) = (kPart M U Z k i).set (k + i) d := by
  apply List.ext_getElem?
  intro j
  rw [List.getElem?_set]
  by_cases hj : j < M
  · rw [kPart_at hj, kPart_at hj]
    by_cases h1 : k + i = j
    · subst h1; rw [if_pos rfl, if_pos (by omega), if_pos (by rw [kPart_len]; exact h), show k + i - k = i by omega, hd]
    · rw [if_neg h1]
      by_cases h2 : k ≤ j ∧ j < k + i
      · rw [if_pos h2, if_pos (by omega)]
      · rw [if_neg h2, if_neg (by omega)]
  · rw [List.getElem?_eq_none (by simp [kPart]; omega), if_neg (by omega), List.getElem?_eq_none (by simp [kPart]; omega)]
theorem low_dig (U j k : Nat) (h : j < k) (T : Nat) : (U % 4294967296 ^ k + 4294967296 ^ k * T) / 4294967296 ^ j % 4294967296 = U / 4294967296 ^ j % 4294967296 := by
  have hp : 4294967296 ^ k = 4294967296 ^ j * (4294967296 * 4294967296 ^ (k - j - 1)) := by
    conv => lhs; rw [show k = j + (1 + (k - j - 1)) by omega, Nat.pow_add, Nat.pow_add, Nat.pow_one]
  rw [hp, Nat.mul_assoc, Nat.mul_assoc, Nat.add_mul_div_left _ _ (pw_pos j), Nat.add_mul_mod_self_left, ← Nat.mul_assoc, Nat.mul_assoc, mod_div_mul, Nat.mod_mul_right_mod]
theorem kPart_all {M U Z k n : Nat} (hk : k + n + 1 ≤ M) (hU : U < 4294967296 ^ (k + n + 1)) : kPart M U Z k (n + 1) = wDig M (U % 4294967296 ^ k + 4294967296 ^ k * (Z % 4294967296 ^ (n + 1))) := by
  unfold kPart wDig
  refine List.map_congr_left fun j hj => ?_
  rw [List.mem_range] at hj
  have hT : U % 4294967296 ^ k + 4294967296 ^ k * (Z % 4294967296 ^ (n + 1)) < 4294967296 ^ (k + n + 1) := by
    rw [show k + n + 1 = k + (n + 1) by omega, Nat.pow_add 4294967296 k (n + 1)]
    have h1 := Nat.mod_lt U (pw_pos k)
    have h2 : Z % 4294967296 ^ (n + 1) + 1 ≤ 4294967296 ^ (n + 1) := Nat.mod_lt Z (pw_pos (n + 1))
    have h3 := Nat.mul_le_mul_left (4294967296 ^ k) h2
    rw [Nat.mul_add, Nat.mul_one] at h3
    generalize 4294967296 ^ (n + 1) = Q at *
    generalize 4294967296 ^ k * (Z % Q) = T at *
    generalize 4294967296 ^ k * Q = R at *
    generalize 4294967296 ^ k = A at *
    omega
  rcases Nat.lt_or_ge j k with h | h
  · rw [if_neg (by omega), low_dig U j k h]
  · by_cases h2 : j < k + (n + 1)
    · rw [if_pos ⟨h, h2⟩]
      have e : (U % 4294967296 ^ k + 4294967296 ^ k * (Z % 4294967296 ^ (n + 1))) / 4294967296 ^ j = Z % 4294967296 ^ (n + 1) / 4294967296 ^ (j - k) := by
        conv => lhs; rw [show j = k + (j - k) by omega, Nat.pow_add 4294967296 k (j - k), ← Nat.div_div_eq_div_mul, Nat.add_mul_div_left _ _ (pw_pos k), Nat.div_eq_of_lt (Nat.mod_lt _ (pw_pos k)), Nat.zero_add]
      have := low_dig Z (j - k) (n + 1) (by omega) 0
      rw [Nat.mul_zero, Nat.add_zero] at this
      rw [e, this]
    · rw [if_neg (by omega), dig_high hT (by omega), dig_high hU (by omega)]

theorem take_nums {X Y i x y b : Nat} (h : Y ≤ X) (hx : x = X / 4294967296 ^ i % 4294967296) (hy : y = Y / 4294967296 ^ i % 4294967296) (hb : b = bw X Y i) :
    ∃ (N1 N : Int) (d b' : Nat), IntKind.u64.wrap ((x : Int) - y) = N1 ∧ IntKind.u64.wrap (N1 - b) = N ∧ N % 4294967296 = d ∧ N / 9223372036854775808 = b' ∧ 0 ≤ N1 ∧ N1 ≤ 18446744073709551615 ∧ 0 ≤ N ∧ N ≤ 18446744073709551615 ∧ b' = bw X Y (i + 1) ∧ (X - Y) / 4294967296 ^ i % 4294967296 = d ∧ d < 4294967296 ∧ b' ≤ 1 := by
  have hxl : x < 4294967296 := by rw [hx]; exact Nat.mod_lt _ (by decide)
  have hyl : y < 4294967296 := by rw [hy]; exact Nat.mod_lt _ (by decide)
  have hbl := bw_le X Y i
  rw [← hb] at hbl
  have w64 : ∀ n : Int, -18446744073709551616 ≤ n → n ≤ 18446744073709551615 → IntKind.u64.wrap n = if n < 0 then n + 18446744073709551616 else n := by
    intro n h1 h2
    split
    · have : IntKind.u64.wrap n = n % 18446744073709551616 := by simp [IntKind.wrap, IntKind.bits, IntKind.signed]
      rw [this]; omega
    · exact IntWalk.u64_in _ ⟨by omega, h2⟩
  rcases bw_step h hx hy with ⟨h1, h2, h3⟩ | ⟨h1, h2, h3⟩
  · rw [← hb] at h1 h3
    refine ⟨x - y, x - y - b, x - y - b, 0, ?_, ?_, by omega, by omega, by omega, by omega, by omega, by omega, h2.symm, h3, by omega, by omega⟩
    · rw [w64 _ (by omega) (by omega), if_neg (by omega)]
    · rw [w64 _ (by omega) (by omega), if_neg (by omega)]
  · rw [← hb] at h1 h3
    by_cases hc : y ≤ x
    · refine ⟨x - y, 18446744073709551616 + x - y - b, 4294967296 + x - y - b, 1, ?_, ?_, by omega, by omega, by omega, by omega, by omega, by omega, h2.symm, h3, by omega, by omega⟩
      · rw [w64 _ (by omega) (by omega), if_neg (by omega)]
      · rw [w64 _ (by omega) (by omega), if_pos (by omega)]; omega
    · refine ⟨18446744073709551616 + x - y, 18446744073709551616 + x - y - b, 4294967296 + x - y - b, 1, ?_, ?_, by omega, by omega, by omega, by omega, by omega, by omega, h2.symm, h3, by omega, by omega⟩
      · rw [w64 _ (by omega) (by omega), if_pos (by omega)]; omega
      · rw [w64 _ (by omega) (by omega), if_neg (by omega)]
theorem bw_high {X D i n : Nat} (h : i ≤ n) : bw (X + 4294967296 ^ n) D i = bw X D i := by
  unfold bw
  have hp : 4294967296 ^ n = 4294967296 ^ i * 4294967296 ^ (n - i) := by rw [← Nat.pow_add, show i + (n - i) = n by omega]
  rw [hp, Nat.add_mul_mod_self_left]
theorem dig_plus {X i n : Nat} (h : i < n) : (X + 4294967296 ^ n) / 4294967296 ^ i % 4294967296 = X / 4294967296 ^ i % 4294967296 := by
  have hp : 4294967296 ^ n = 4294967296 ^ i * (4294967296 * 4294967296 ^ (n - i - 1)) := by
    conv => lhs; rw [show n = i + (1 + (n - i - 1)) by omega, Nat.pow_add, Nat.pow_add, Nat.pow_one]
  rw [hp, Nat.add_mul_div_left _ _ (pw_pos i), Nat.add_mul_mod_self_left]
/-- The carry of a product. -/
theorem prod_nums {V d i v c : Nat} (hd : d < 4294967296) (hv : v = V / 4294967296 ^ i % 4294967296) (hc : c = cyM 0 d V 0 i) :
    ∃ (P C : Int) (y c' : Nat), IntKind.u64.wrap ((d : Int) * v) = P ∧ IntKind.u64.wrap ((c : Int) + P) = C ∧ C % 4294967296 = y ∧ C / 4294967296 = c' ∧ 0 ≤ P ∧ P ≤ 18446744073709551615 ∧ 0 ≤ C ∧ C ≤ 18446744073709551615 ∧ y = d * V / 4294967296 ^ i % 4294967296 ∧ c' = cyM 0 d V 0 (i + 1) ∧ y < 4294967296 ∧ c' < 4294967296 := by
  obtain ⟨N1, N2, N3, y, c', h1, h2, h3, h4, h5, n1, n2, n3, n4, n5, n6, h6, h7, h8, h9⟩ := mul_nums (N := 0) (w := d) (Y := V) (i := 0) (k := i) (y := v) (o := 0) (S := d * V) hd (by simp) hv (by simp) hc
  have e : N2 = N1 := by rw [← h2, show N1 + ((0 : Nat) : Int) = N1 by simp]; exact IntWalk.u64_in _ ⟨n1, n2⟩
  subst e
  exact ⟨N2, N3, y, c', h1, h3, h4, h5, n1, n2, n5, n6, by rw [← h7, Nat.zero_add], h6, h8, h9⟩

set_option maxHeartbeats 4000000 in
theorem takeAway_any (gu cu k n M U gv cv mv V d D W Z : Nat) (w : World) (hM : M ≤ 30000) (hk : k + n + 1 ≤ M) (hX : Blk w gu 150 (wC (wDig M U))) (hU : U < 4294967296 ^ (k + n + 1)) (hV : Blk w gv 150 (wC (wDig mv V))) (hn : n ≤ mv) (hVl : V < 4294967296 ^ n) (hd : d < 4294967296) (hne : gv ≠ gu)
    (hD : D = d * V) (hW : W = U / 4294967296 ^ k) (hZ : Z = W + 4294967296 ^ (n + 1) - D) (hnc : n + 1 ≤ cu) :
    Calls Tryz.prog 137 #[.slice (some ⟨gu, k, none⟩) (n + 1 : Nat) cu, .slice (some ⟨gv, 0, none⟩) n cv, .int .u64 d] w fun e w' => e = .returned (.bool (decide (W < D))) ∧ Blk w' gu 150 (wC (wDig M (U % 4294967296 ^ k + 4294967296 ^ k * (Z % 4294967296 ^ (n + 1))))) ∧ w.grownBy w' (some gu) := by
  have hDl : D < 4294967296 ^ (n + 1) := by
    rw [hD, Nat.pow_succ, Nat.mul_comm]
    rcases Nat.eq_zero_or_pos d with h | h
    · subst h
      rw [Nat.mul_zero]
      exact Nat.mul_pos (pw_pos n) (by decide)
    · exact Nat.lt_of_lt_of_le (Nat.mul_lt_mul_of_pos_right hVl h) (Nat.mul_le_mul_left _ (Nat.le_of_lt hd))
  have hWl : W < 4294967296 ^ (n + 1) := by
    rw [hW, Nat.div_lt_iff_lt_mul (pw_pos k), ← Nat.pow_add, show n + 1 + k = k + n + 1 by omega]
    exact hU
  have HD := Lib.hid hD
  have HW := Lib.hid hW
  have HZ := Lib.hid hZ
  have HDl := Lib.hid hDl
  have HWl := Lib.hid hWl
  have HU := Lib.hid hU
  have HVl := Lib.hid hVl
  have HNE := Lib.hid hne
  have Y0 := Lib.hid hV
  have X0 : Hid (Blk w gu 150 (wC (kPart M U Z k 0))) := by unfold Hid; rw [kPart_zero]; exact hX
  have HLE : Hid (D ≤ W + 4294967296 ^ (n + 1)) := by unfold Hid; omega
  clear hD hW hZ hDl hWl hU hVl hne hV hX
  go_enter Tryz.func137, Tryz.ntmps137
  go_wp2_with fail
  go_loopw [7, 8, 15] (fun c b i wr => ∃ j : Nat, i = .int .i64 j ∧ j ≤ n ∧ c = .int .u64 (cyM 0 d V 0 j) ∧ b = .int .u64 (bw (W + 4294967296 ^ (n + 1)) D j) ∧ Hid (Blk wr gu 150 (wC (kPart M U Z k j))) ∧ Hid (w.grownBy wr (some gu))) (fun _ _ i _ => n - (intOf i).toNat)
  case atStart => exact ⟨0, rfl, by omega, by rw [cyM_zero]; rfl, by rw [bw_zero]; rfl, X0, World.grownBy.refl w _⟩
  case round =>
    clear X0
    obtain ⟨j, rfl, hj, rfl, rfl, XX, GG⟩ := hrel
    obtain ⟨c, hc⟩ : ∃ c, c = cyM 0 d V 0 j := ⟨_, rfl⟩
    obtain ⟨b, hb⟩ : ∃ b, b = bw (W + 4294967296 ^ (n + 1)) D j := ⟨_, rfl⟩
    obtain ⟨x, hx⟩ : ∃ x, x = (W + 4294967296 ^ (n + 1)) / 4294967296 ^ j % 4294967296 := ⟨_, rfl⟩
    have hcl : c < 4294967296 := by rw [hc]; exact cyM_lt hd
    have hbl : b ≤ 1 := by rw [hb]; exact bw_le _ _ _
    have hxl : x < 4294967296 := by rw [hx]; exact dig_lt _ _
    obtain ⟨p, hp⟩ : ∃ p, p = k + j := ⟨_, rfl⟩
    have hpm : p < M := by omega
    have cX : wr.cell? ⟨gu, p, none⟩ = some (.int .u32 x) := by
      rw [XX.out.cell]
      refine wC_at ?_
      rw [hp, kPart_next (by omega), hx, dig_plus (by omega), HW.out]
    have fX := XX.out.frozen p
    have cX' : wr.cell? ⟨gu, k + j, none⟩ = some (.int .u32 x) := by rw [← hp]; exact cX
    have fX' : wr.frozen? ⟨gu, k + j, none⟩ = false := by rw [← hp]; exact fX
    clear cX fX
    by_cases hlt : j < n
    · obtain ⟨v, hv⟩ : ∃ v, v = V / 4294967296 ^ j % 4294967296 := ⟨_, rfl⟩
      have hvl : v < 4294967296 := by rw [hv]; exact dig_lt _ _
      obtain ⟨P, C, y, c', p1, p2, p3, p4, p5, p6, p7, p8, p9, p10, p11, p12⟩ := prod_nums hd hv hc
      rw [← HD.out] at p9
      obtain ⟨N1, N, z, b', q1, q2, q3, q4, q5, q6, q7, q8, q9, q10, q11, q12⟩ := take_nums HLE.out hx p9 hb
      rw [← HZ.out] at q10
      have cV : wr.cell? ⟨gv, j, none⟩ = some (.int .u32 v) := by
        rw [(Y0.out.grown GG.out (by simpa using HNE.out)).cell, hv]; exact wC_at (wDig_at (by omega))
      have X2 : Hid (Blk (wr.setCell ⟨gu, k + j, none⟩ (.int .u32 z)) gu 150 (wC (kPart M U Z k (j + 1)))) := by
        unfold Hid
        rw [kPart_step (by omega) q10, ← wC_set]
        exact XX.out.set_ (k + j) _
      have G2 := Lib.hid (grown_set GG.out (k + j) (.int .u32 z))
      have H9 : Hid ((.int .u64 (b' : Int) : Value) = .int .u64 (bw (W + 4294967296 ^ (n + 1)) D (j + 1))) := by unfold Hid; rw [q9]
      have H10 : Hid ((.int .u64 (c' : Int) : Value) = .int .u64 (cyM 0 d V 0 (j + 1))) := by unfold Hid; rw [p10]
      rw [← hc, ← hb]
      clear hx hb hc hv hp p9 p10 q9 q10
      go_wp2_with fail
      go_roundw
      case rel => exact ⟨j + 1, by go_num, by omega, H10.out, H9.out, X2, G2⟩
      case measure => simp [intOf]; omega
    · have hjn : j = n := by omega
      subst hjn
      have hcy : c = D / 4294967296 ^ j % 4294967296 := by
        have e : c = D / 4294967296 ^ j := by
          rw [hc, HD.out]; unfold cyM
          rw [Nat.zero_mod, Nat.zero_add, Nat.zero_add, Nat.pow_zero, Nat.mul_one, Nat.mod_eq_of_lt HVl.out]
        rw [← e]; exact (Nat.mod_eq_of_lt hcl).symm
      obtain ⟨N1, N, z, b', q1, q2, q3, q4, q5, q6, q7, q8, q9, q10, q11, q12⟩ := take_nums HLE.out hx hcy hb
      rw [← HZ.out] at q10
      have X2 : Hid (Blk (wr.setCell ⟨gu, k + j, none⟩ (.int .u32 z)) gu 150 (wC (wDig M (U % 4294967296 ^ k + 4294967296 ^ k * (Z % 4294967296 ^ (j + 1)))))) := by
        unfold Hid
        rw [← kPart_all (by omega) HU.out, kPart_step (by omega) q10, ← wC_set]
        exact XX.out.set_ (k + j) _
      have G2 := Lib.hid (grown_set GG.out (k + j) (.int .u32 z))
      have H9 : Hid (decide (0 < b') = decide (W < D)) := by
        unfold Hid
        rw [q9, bw_high (Nat.le_refl _)]
        unfold bw
        rw [Nat.mod_eq_of_lt HWl.out, Nat.mod_eq_of_lt HDl.out]
        by_cases h : W < D
        · simp [h]
        · simp [h]
      rw [← hc, ← hb]
      clear hx hb hc hp hcy q9 q10
      go_wp2_with fail
      go_ret
      exact ⟨congrArg (fun b => Ending.returned (.bool b)) H9.out, X2.out, G2.out⟩

theorem back_nums {X Y i x y c : Nat} (hx : x = X / 4294967296 ^ i % 4294967296) (hy : y = Y / 4294967296 ^ i % 4294967296) (hc : c = cyA X Y i) :
    ∃ (N1 N : Int) (d c' : Nat), IntKind.u64.wrap ((x : Int) + y) = N1 ∧ IntKind.u64.wrap ((c : Int) + N1) = N ∧ N % 4294967296 = d ∧ N / 4294967296 = c' ∧ 0 ≤ N1 ∧ N1 ≤ 18446744073709551615 ∧ 0 ≤ N ∧ N ≤ 18446744073709551615 ∧ c' = cyA X Y (i + 1) ∧ (X + Y) / 4294967296 ^ i % 4294967296 = d ∧ d < 4294967296 ∧ c' ≤ 1 := by
  have hxl : x < 4294967296 := by rw [hx]; exact dig_lt X i
  have hyl : y < 4294967296 := by rw [hy]; exact dig_lt Y i
  have hcl := cyA_le X Y i
  obtain ⟨h1, h2⟩ := cyA_step hx hy
  rw [← hc] at h1 h2 hcl
  have hc2 := cyA_le X Y (i + 1)
  refine ⟨x + y, c + (x + y), (c + x + y) % 4294967296, (c + x + y) / 4294967296, IntWalk.u64_in _ (by omega), IntWalk.u64_in _ (by omega), by omega, by omega, by omega, by omega, by omega, by omega, h2.symm, h1, by omega, by rw [← h2]; exact hc2⟩

set_option maxHeartbeats 4000000 in
theorem putBack_any (gu cu k n M U gv cv mv V W : Nat) (w : World) (hM : M ≤ 30000) (hk : k + n + 1 ≤ M) (hX : Blk w gu 150 (wC (wDig M U))) (hU : U < 4294967296 ^ (k + n + 1)) (hV : Blk w gv 150 (wC (wDig mv V))) (hn : n ≤ mv) (hVl : V < 4294967296 ^ n) (hne : gv ≠ gu)
    (hW : W = U / 4294967296 ^ k) (hnc : n + 1 ≤ cu) :
    Calls Tryz.prog 138 #[.slice (some ⟨gu, k, none⟩) (n + 1 : Nat) cu, .slice (some ⟨gv, 0, none⟩) n cv] w fun e w' => e = .returned (.tuple #[]) ∧ Blk w' gu 150 (wC (wDig M (U % 4294967296 ^ k + 4294967296 ^ k * ((W + V) % 4294967296 ^ (n + 1))))) ∧ w.grownBy w' (some gu) := by
  have HW := Lib.hid hW
  have HU := Lib.hid hU
  have HVl := Lib.hid hVl
  have HNE := Lib.hid hne
  have Y0 := Lib.hid hV
  have X0 : Hid (Blk w gu 150 (wC (kPart M U (W + V) k 0))) := by unfold Hid; rw [kPart_zero]; exact hX
  clear hW hU hVl hne hV hX
  go_enter Tryz.func138, Tryz.ntmps138
  go_wp2_with fail
  go_loopw [4, 9] (fun c i wr => ∃ j : Nat, i = .int .i64 j ∧ j ≤ n ∧ c = .int .u64 (cyA W V j) ∧ Hid (Blk wr gu 150 (wC (kPart M U (W + V) k j))) ∧ Hid (w.grownBy wr (some gu))) (fun _ i _ => n - (intOf i).toNat)
  case atStart => exact ⟨0, rfl, by omega, by rw [cyA_zero]; rfl, X0, World.grownBy.refl w _⟩
  case round =>
    clear X0
    obtain ⟨j, rfl, hj, rfl, XX, GG⟩ := hrel
    obtain ⟨c, hc⟩ : ∃ c, c = cyA W V j := ⟨_, rfl⟩
    obtain ⟨x, hx⟩ : ∃ x, x = W / 4294967296 ^ j % 4294967296 := ⟨_, rfl⟩
    have hcl : c ≤ 1 := by rw [hc]; exact cyA_le _ _ _
    have hxl : x < 4294967296 := by rw [hx]; exact dig_lt _ _
    have cX' : wr.cell? ⟨gu, k + j, none⟩ = some (.int .u32 x) := by
      rw [XX.out.cell]
      refine wC_at ?_
      rw [kPart_next (by omega), hx, HW.out]
    have fX' := XX.out.frozen (k + j)
    by_cases hlt : j < n
    · obtain ⟨v, hv⟩ : ∃ v, v = V / 4294967296 ^ j % 4294967296 := ⟨_, rfl⟩
      have hvl : v < 4294967296 := by rw [hv]; exact dig_lt _ _
      obtain ⟨N1, N, z, c', q1, q2, q3, q4, q5, q6, q7, q8, q9, q10, q11, q12⟩ := back_nums hx hv hc
      have cV : wr.cell? ⟨gv, j, none⟩ = some (.int .u32 v) := by
        rw [(Y0.out.grown GG.out (by simpa using HNE.out)).cell, hv]; exact wC_at (wDig_at (by omega))
      have X2 : Hid (Blk (wr.setCell ⟨gu, k + j, none⟩ (.int .u32 z)) gu 150 (wC (kPart M U (W + V) k (j + 1)))) := by
        unfold Hid
        rw [kPart_step (by omega) q10, ← wC_set]
        exact XX.out.set_ (k + j) _
      have G2 := Lib.hid (grown_set GG.out (k + j) (.int .u32 z))
      have H9 : Hid ((.int .u64 (c' : Int) : Value) = .int .u64 (cyA W V (j + 1))) := by unfold Hid; rw [q9]
      rw [← hc]
      clear hx hc hv q9 q10
      go_wp2_with fail
      go_roundw
      case rel => exact ⟨j + 1, by go_num, by omega, H9.out, X2, G2⟩
      case measure => simp [intOf]; omega
    · have hjn : j = n := by omega
      subst hjn
      have hv0 : 0 = V / 4294967296 ^ j % 4294967296 := (dig_high HVl.out (Nat.le_refl _)).symm
      obtain ⟨h1, h2⟩ := cyA_step hx hv0
      rw [← hc, Nat.add_zero] at h1
      obtain ⟨z, hz⟩ : ∃ z, z = (c + x) % 4294967296 := ⟨_, rfl⟩
      rw [← hz] at h1
      have hw1 : IntKind.u32.wrap ((x : Int) + c) = (z : Int) := by
        have : IntKind.u32.wrap ((x : Int) + c) = ((x : Int) + c) % 4294967296 := by simp [IntKind.wrap, IntKind.bits, IntKind.signed]
        rw [this, hz]; omega
      have hw2 : ((x : Int) + c) % 4294967296 = (z : Int) := by omega
      have hcm : (c : Int) % 4294967296 = c := by omega
      have hzl : z < 4294967296 := by omega
      have X2 : Hid (Blk (wr.setCell ⟨gu, k + j, none⟩ (.int .u32 z)) gu 150 (wC (wDig M (U % 4294967296 ^ k + 4294967296 ^ k * ((W + V) % 4294967296 ^ (j + 1)))))) := by
        unfold Hid
        rw [← kPart_all (by omega) HU.out, kPart_step (by omega) h1, ← wC_set]
        exact XX.out.set_ (k + j) _
      have G2 := Lib.hid (grown_set GG.out (k + j) (.int .u32 z))
      rw [← hc]
      clear hx hc hv0 h1 h2 hz
      go_wp2_with fail
      go_end0
      exact ⟨rfl, X2.out, G2.out⟩
end Go.Proofs.YtaiokjhjakdhaaaGreatDoor
