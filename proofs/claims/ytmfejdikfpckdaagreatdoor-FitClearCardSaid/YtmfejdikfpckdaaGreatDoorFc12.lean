/- The walks of nat.Cmp, and of nat.Add, Mul, Div, Gcd, common at short numbers. · The walks of nat.words, less, text, Sub. · The walks of nat.less and Sub. · The walks of nat.Add and Mul for numbers of any length. Printed by gen/nume.py. · The walk of nat.Mul for numbers of any length. Printed by gen/numf.py. · The walks of nat.text at the first words of a row, and of nat.Div by one word. Printed by gen/numg.py. -/
import Derived.Test.YtmfejdikfpckdaaGreatDoorFc11
import Derived.Test.YtmfejdikfpckdaaGreatDoorFc2
import Derived.Test.YtmfejdikfpckdaaGreatDoorFc4
import Derived.BigRegion
import Derived.RegionTactic
namespace Go.Proofs.YtmfejdikfpckdaaGreatDoor
open Go.RowKit
set_option linter.unusedVariables false
set_option maxRecDepth 100000

def cmpN (a b : Nat) : Int := if a < b then -1 else if b < a then 1 else 0
theorem shN_cons (x : UInt8) (l : List UInt8) : shN (x :: l) = x.toNat * 256 ^ l.length + shN l := by
  have key : ∀ (l : List UInt8) (n : Nat), l.foldl (fun n b => n * 256 + b.toNat) n = n * 256 ^ l.length + shN l := by
    intro l
    induction l with
    | nil => intro n; simp [shN]
    | cons y l ih =>
      intro n
      show List.foldl _ (n * 256 + y.toNat) l = _
      rw [ih, show shN (y :: l) = List.foldl (fun n b => n * 256 + b.toNat) (0 * 256 + y.toNat) l from rfl, ih, List.length_cons, Nat.pow_succ, Nat.add_mul, Nat.mul_assoc, Nat.mul_comm 256, Nat.zero_mul, Nat.zero_add]
      omega
  show List.foldl _ (0 * 256 + x.toNat) l = _
  rw [key]; simp
theorem shN_lt (l : List UInt8) : shN l < 256 ^ l.length := by
  have := shN_take_lt l l.length
  rwa [List.take_length] at this
theorem cmpB_len : ∀ (l m : List UInt8), l.length = m.length → Lib.compareBytes l m = cmpN (shN l) (shN m)
  | [], [], _ => by simp [Lib.compareBytes, cmpN, shN]
  | x :: l, y :: m, h => by
    have hl : l.length = m.length := by simpa using h
    have ih := cmpB_len l m hl
    have h1 := shN_lt l
    have h2 := shN_lt m
    rw [shN_cons, shN_cons, ← hl]
    rw [← hl] at h2
    generalize 256 ^ l.length = P at *
    simp only [Lib.compareBytes]
    by_cases hxy : x < y
    · rw [if_pos hxy]
      have : x.toNat < y.toNat := UInt8.lt_iff_toNat_lt.1 hxy
      have h3 : (x.toNat + 1) * P ≤ y.toNat * P := Nat.mul_le_mul_right P this
      rw [Nat.add_mul] at h3
      unfold cmpN; rw [if_pos (by omega)]
    · rw [if_neg hxy]
      by_cases hyx : y < x
      · rw [if_pos hyx]
        have : y.toNat < x.toNat := UInt8.lt_iff_toNat_lt.1 hyx
        have h3 : (y.toNat + 1) * P ≤ x.toNat * P := Nat.mul_le_mul_right P this
        rw [Nat.add_mul] at h3
        unfold cmpN; rw [if_neg (by omega), if_pos (by omega)]
      · rw [if_neg hyx, ih]
        have e : x.toNat = y.toNat := by
          have a1 : ¬ x.toNat < y.toNat := fun h => hxy (UInt8.lt_iff_toNat_lt.2 h)
          have a2 : ¬ y.toNat < x.toNat := fun h => hyx (UInt8.lt_iff_toNat_lt.2 h)
          omega
        rw [e]
        have e1 : (y.toNat * P + shN l < y.toNat * P + shN m) = (shN l < shN m) := propext (by omega)
        have e2 : (y.toNat * P + shN m < y.toNat * P + shN l) = (shN m < shN l) := propext (by omega)
        simp only [cmpN, e1, e2]
theorem cmpB_digs {a b : Nat} (h : (digs a).length = (digs b).length) : Lib.compareBytes (digs a) (digs b) = cmpN a b := by
  rw [cmpB_len _ _ h, shN_digs, shN_digs]
theorem len_lt {a b : Nat} (h : (digs a).length < (digs b).length) : a < b := by
  rcases Nat.lt_or_ge a b with h1 | h1
  · exact h1
  · have := digs_len_mono h1; omega
theorem nS_empty {n : Nat} : (nS n).size = 0 ↔ n = 0 := by
  rw [nS_size]
  constructor
  · intro h
    have := digs_low (n := n) (k := 0) (by omega)
    simpa using this
  · intro h; rw [h, digs_zero]; rfl

set_option maxHeartbeats 1000000 in
theorem Cmp_any (a b : Nat) (r : Int) (w : World) (ha : (nS a).size ≤ 100000) (hb : (nS b).size ≤ 100000) (hr : Hid (cmpN a b = r)) :
    Calls Tryz.prog 54 #[.string (nS a), .string (nS b)] w fun e w' => e = .returned (.int .i64 r) ∧ w = w' := by
  have HA := Lib.hid ha
  have HB := Lib.hid hb
  clear ha hb
  by_cases h1 : (nS a).size < (nS b).size
  · have hlt : r = -1 := by rw [← hr.out, cmpN, if_pos (len_lt (by rw [← nS_size, ← nS_size]; exact h1))]
    subst hlt
    go_enter Tryz.func54, Tryz.ntmps54
    go_wp2_with fail
    refine (trim_nS a _ HA.out).mono ?_
    rintro e w' ⟨rfl, rfl⟩
    go_wp2_with fail
    refine (trim_nS b _ HB.out).mono ?_
    rintro e w' ⟨rfl, rfl⟩
    go_wp2_with fail
    go_ret
    exact ⟨rfl, rfl⟩
  · by_cases h2 : (nS b).size < (nS a).size
    · have hlt : r = 1 := by
        have := len_lt (a := b) (b := a) (by rw [← nS_size, ← nS_size]; exact h2)
        rw [← hr.out, cmpN, if_neg (by omega), if_pos this]
      subst hlt
      go_enter Tryz.func54, Tryz.ntmps54
      go_wp2_with fail
      refine (trim_nS a _ HA.out).mono ?_
      rintro e w' ⟨rfl, rfl⟩
      go_wp2_with fail
      refine (trim_nS b _ HB.out).mono ?_
      rintro e w' ⟨rfl, rfl⟩
      go_wp2_with fail
      go_ret
      exact ⟨rfl, rfl⟩
    · have hE : Hid (Lib.compareBytes (nS a).data.toList (nS b).data.toList = r) := by
        unfold Hid
        rw [nS_list, nS_list, cmpB_digs (by rw [← nS_size, ← nS_size]; omega)]
        exact hr.out
      go_enter Tryz.func54, Tryz.ntmps54
      go_wp2_with fail
      refine (trim_nS a _ HA.out).mono ?_
      rintro e w' ⟨rfl, rfl⟩
      go_wp2_with fail
      refine (trim_nS b _ HB.out).mono ?_
      rintro e w' ⟨rfl, rfl⟩
      go_wp2_with fail
      refine (Tryz.strings_Compare (nS a) (nS b) _).mono ?_
      rintro e w' ⟨rfl, rfl⟩
      rw [hE.out]
      go_wp2_with fail
      go_ret
      exact ⟨rfl, rfl⟩

/-! Short numbers -/
theorem size7 {a : Nat} (h : a < 72057594037927936) : (nS a).size < 8 := by rw [nS_size]; exact Nat.lt_succ_of_le (digs_len (k := 7) h)
theorem size8 {a : Nat} (h : a < 18446744073709551616) : (nS a).size ≤ 8 := by rw [nS_size]; exact digs_len (k := 8) h
set_option maxHeartbeats 1000000 in
theorem Add_any (a b : Nat) (w : World) (ha : a < 72057594037927936) (hb : b < 72057594037927936) :
    Calls Tryz.prog 46 #[.string (nS a), .string (nS b)] w fun e w' => e = .returned (.string (nS (a + b))) ∧ Below w.heap.size w w' := by
  have sa := size7 ha
  have sb := size7 hb
  have HA : Hid ((nS a).size ≤ 100000) := Nat.le_trans (size8 (by omega)) (by decide)
  have HB : Hid ((nS b).size ≤ 100000) := Nat.le_trans (size8 (by omega)) (by decide)
  go_enter Tryz.func46, Tryz.ntmps46
  go_wp2_with fail
  refine (trim_nS a _ HA.out).mono ?_
  rintro e w' ⟨rfl, rfl⟩
  go_wp2_with fail
  refine (trim_nS b _ HB.out).mono ?_
  rintro e w' ⟨rfl, rfl⟩
  go_wp2_with fail
  refine (short_nS a _ (by omega)).mono ?_
  rintro e w' ⟨rfl, rfl⟩
  go_wp2_with fail
  refine (short_nS b _ (by omega)).mono ?_
  rintro e w' ⟨rfl, rfl⟩
  have hw : IntKind.u64.wrap ((a : Int) + b) = ((a + b : Nat) : Int) := by rw [IntWalk.u64_in _ (by omega)]; omega
  go_wp2_with fail
  refine (fromShort_any (a + b) _ (by omega)).mono ?_
  rintro e w' ⟨rfl, hb2⟩
  have B2 := Lib.hid hb2
  clear hb2
  go_wp2_with fail
  go_ret
  exact ⟨rfl, B2.out⟩

theorem ba_loop (s : ByteArray) : ∀ (k i : Nat) (r : List UInt8), s.size = i + k → ByteArray.toList.loop s i r = r.reverse ++ s.data.toList.drop i
  | 0, i, r, h => by
    rw [ByteArray.toList.loop, if_neg (by omega), List.drop_eq_nil_of_le (by rw [← ba_size]; omega), List.append_nil]
  | k + 1, i, r, h => by
    rw [ByteArray.toList.loop, if_pos (by omega), ba_loop s k (i + 1) _ (by omega), List.reverse_cons, List.append_assoc]
    congr 1
    have hi : i < s.data.toList.length := by rw [← ba_size]; omega
    rw [List.drop_eq_getElem_cons hi]
    congr 1
    have : s.get! i = s.data[i]! := rfl
    rw [this, getElem!_pos s.data i (by simpa using hi)]
    rfl
theorem ba_toList (s : ByteArray) : s.toList = s.data.toList := by
  unfold ByteArray.toList
  rw [ba_loop s s.size 0 [] (by omega)]
  simp
theorem nS_ne {n : Nat} (h : 0 < n) : (nS n).toList.isEmpty = false := by
  obtain ⟨b, t, h1, _⟩ := digs_head h
  rw [ba_toList, nS_list, h1]; rfl
theorem nS_zero : (nS 0).toList.isEmpty = true := by rw [ba_toList, nS_list, digs_zero]; rfl
theorem nS_0 : nS 0 = ⟨#[]⟩ := by unfold nS; rw [digs_zero]

set_option maxHeartbeats 1000000 in
theorem Div_any (a b : Nat) (w : World) (ha : a < 18446744073709551616) (hb : b < 18446744073709551616) (hb0 : 0 < b) :
    Calls Tryz.prog 71 #[.string (nS a), .string (nS b)] w fun e w' => e = .returned (.tuple #[.string (nS (a / b)), .string (nS (a % b)), .int .i64 0]) ∧ Below w.heap.size w w' := by
  have sa := size8 ha
  have sb := size8 hb
  have HA : Hid ((nS a).size ≤ 100000) := Nat.le_trans sa (by decide)
  have HB : Hid ((nS b).size ≤ 100000) := Nat.le_trans sb (by decide)
  have hne := nS_ne hb0
  have hbz : ((b : Int) == 0) = false := by rw [beq_eq_false_iff_ne]; omega
  have q1 : a / b < 18446744073709551616 := Nat.lt_of_le_of_lt (Nat.div_le_self a b) ha
  have q2 : a % b < 18446744073709551616 := Nat.lt_of_le_of_lt (Nat.mod_le a b) ha
  have hq : IntKind.u64.wrap ((a : Int) / b) = ((a / b : Nat) : Int) := by
    rw [← Int.natCast_ediv]; exact IntWalk.u64_in _ ⟨Int.natCast_nonneg _, by generalize a / b = z at *; omega⟩
  have hr : IntKind.u64.wrap ((a : Int) % b) = ((a % b : Nat) : Int) := by
    rw [← Int.natCast_emod]; exact IntWalk.u64_in _ ⟨Int.natCast_nonneg _, by generalize a % b = z at *; omega⟩
  have hr2 : (a : Int) % b = ((a % b : Nat) : Int) := by rw [← Int.natCast_emod]
  have Q1 := Lib.hid q1
  have Q2 := Lib.hid q2
  have HR2 := Lib.hid hr2
  have HRR := Lib.hid hr
  clear q1 q2 hr2 hr
  go_enter Tryz.func71, Tryz.ntmps71
  go_wp2_with fail
  refine (trim_nS a _ HA.out).mono ?_
  rintro e w' ⟨rfl, rfl⟩
  go_wp2_with fail
  refine (trim_nS b _ HB.out).mono ?_
  rintro e w' ⟨rfl, rfl⟩
  go_wp2_with fail
  refine (short_nS a _ (by omega)).mono ?_
  rintro e w' ⟨rfl, rfl⟩
  go_wp2_with fail
  refine (short_nS b _ (by omega)).mono ?_
  rintro e w' ⟨rfl, rfl⟩
  go_wp2_with fail
  refine (fromShort_any (a / b) _ Q1.out).mono ?_
  rintro e w2 ⟨rfl, hb2⟩
  have B2 := Lib.hid hb2
  clear hb2 hq
  go_wp2_with fail
  refine (short_nS a _ (by omega)).mono ?_
  rintro e w' ⟨rfl, rfl⟩
  go_wp2_with fail
  refine (short_nS b _ (by omega)).mono ?_
  rintro e w' ⟨rfl, rfl⟩
  go_wp2_with fail
  (try rw [HRR.out])
  (try rw [HR2.out])
  refine (fromShort_any (a % b) _ Q2.out).mono ?_
  rintro e w3 ⟨rfl, hb3⟩
  have B3 := Lib.hid (B2.out.trans (hb3.mono B2.out.size))
  clear hb3
  go_wp2_with fail
  go_ret3
  exact ⟨rfl, B3.out⟩

theorem gcd_step (x y : Nat) : Nat.gcd x y = Nat.gcd y (x % y) := by rw [Nat.gcd_comm x y, Nat.gcd_rec y x, Nat.gcd_comm]
set_option maxHeartbeats 1000000 in
theorem common_any (x y : Nat) (g : Nat) (w : World) (hx : x < 18446744073709551616) (hy : y < 18446744073709551616) (hg : Hid (Nat.gcd x y = g)) :
    Calls Tryz.prog 87 #[.int .u64 x, .int .u64 y] w fun e w' => e = .returned (.int .u64 g) ∧ ∃ q, w' = w.drewN q := by
  go_enter Tryz.func87, Tryz.ntmps87
  go_wp2
  go_loopw [0, 1] (fun a b wr => ∃ u v : Nat, a = .int .u64 u ∧ b = .int .u64 v ∧ u < 18446744073709551616 ∧ v < 18446744073709551616 ∧ Hid (Nat.gcd u v = g) ∧ ∃ q, wr = w.drewN q) (fun _ b _ => (intOf b).toNat)
  case atStart => exact ⟨x, y, rfl, rfl, hx, hy, hg, 0, rfl⟩
  case round =>
    clear hx hy hg
    obtain ⟨u, v, rfl, rfl, hu, hv, hg, q, rfl⟩ := hrel
    rcases Nat.eq_zero_or_pos v with h0 | h0
    · subst h0
      have hgu : u = g := by rw [← hg.out, Nat.gcd_zero_right]
      subst hgu
      go_wp2
      go_ret
      exact ⟨rfl, q, rfl⟩
    · have hvz : ((v : Int) == 0) = false := by rw [beq_eq_false_iff_ne]; omega
      have hr : (u : Int) % v = ((u % v : Nat) : Int) := by rw [← Int.natCast_emod]
      have hlt := Nat.mod_lt u h0
      have HG2 : Hid (Nat.gcd v (u % v) = g) := by unfold Hid; rw [← gcd_step]; exact hg.out
      have HR := Lib.hid hr
      clear hr
      go_wp2
      go_quiet (fail)
      go_wp2
      go_roundw
      case rel => exact ⟨v, u % v, rfl, by rw [HR.out], hv, by omega, HG2, q + nq, by simp only [World.drewN_drewN]⟩
      case measure => simp [intOf]; omega

theorem cat_nil (s : ByteArray) : s ++ (⟨#[]⟩ : ByteArray) = s := ba_ext (by simp)
theorem nil_cat (s : ByteArray) : (⟨#[]⟩ : ByteArray) ++ s = s := ba_ext (by simp)
set_option maxHeartbeats 1000000 in
theorem natOf_any (n : Nat) (w : World) (hn : n ≤ 9223372036854775807) :
    Calls Tryz.prog 45 #[.int .i64 n] w fun e w' => e = .returned (.string (nS n)) ∧ Below w.heap.size w w' := by
  rcases Nat.eq_zero_or_pos n with h0 | h0
  · subst h0
    have HN := Lib.hid nS_0
    go_enter Tryz.func45, Tryz.ntmps45
    go_wp2_with fail
    go_ret
    exact ⟨congrArg (fun s => Ending.returned (.string s)) HN.out.symm, Below.refl _ _⟩
  · go_enter Tryz.func45, Tryz.ntmps45
    go_wp2_with fail
    refine (fromShort_any n _ (by omega)).mono ?_
    rintro e w2 ⟨rfl, hb2⟩
    have B2 := Lib.hid hb2
    clear hb2
    go_wp2_with fail
    go_ret
    exact ⟨rfl, B2.out⟩
end Go.Proofs.YtmfejdikfpckdaaGreatDoor

namespace Go.Proofs.YtmfejdikfpckdaaGreatDoor
open Go.RowKit
set_option linter.unusedVariables false
set_option maxRecDepth 100000

theorem info_u32 : (Tryz.prog.info? 134).map (fun i => (i.zero, i.size, i.bytes)) = some (some (.int .u32 0), 1, 4) := by kernel_rfl
/-! Digits in base 2^32 -/
/-- The digits of n % 256^i. -/
def wPart (m n i : Nat) : List Nat := (List.range m).map fun j => n % 256 ^ i / 256 ^ (4 * j) % 4294967296
def wDig (m n : Nat) : List Nat := (List.range m).map fun j => n / 4294967296 ^ j % 4294967296
def wC (l : List Nat) : Array Value := (l.map fun x : Nat => Value.int .u32 (x : Int)).toArray
theorem wC_at {l : List Nat} {j x : Nat} (h : l[j]? = some x) : (wC l)[j]? = some (.int .u32 x) := by simp [wC, h]
theorem wC_set (l : List Nat) (j x : Nat) : (wC l).setIfInBounds j (.int .u32 x) = wC (l.set j x) := by
  apply Array.ext'
  simp [wC, List.map_set]
theorem wPart_zero (m n : Nat) : wPart m n 0 = List.replicate m 0 := by
  unfold wPart
  apply List.ext_getElem?
  intro j
  simp only [Nat.pow_zero, Nat.mod_one, Nat.zero_div, Nat.zero_mod, List.getElem?_map, List.getElem?_replicate]
  by_cases h : j < m
  · rw [if_pos h, List.getElem?_range h]; rfl
  · rw [if_neg h, List.getElem?_eq_none (by simp; omega)]; rfl
theorem wPart_at {m n i j : Nat} (h : j < m) : (wPart m n i)[j]? = some (n % 256 ^ i / 256 ^ (4 * j) % 4294967296) := by
  unfold wPart
  rw [List.getElem?_map, List.getElem?_range h]; rfl
theorem mod_div_mul (n A B : Nat) : n % (A * B) / A = n / A % B := Nat.mod_mul_right_div_self n A B
theorem wPart_step {m n i : Nat} (hi : i / 4 < m) :
    ∃ x b t : Nat, (wPart m n i)[i / 4]? = some x ∧ b = n / 256 ^ i % 256 ∧ t = i % 4 ∧ x < 256 ^ t ∧ wPart m n (i + 1) = (wPart m n i).set (i / 4) (x + b * 256 ^ t) := by
  obtain ⟨q, hq⟩ : ∃ q, q = n / 256 ^ (4 * (i / 4)) := ⟨_, rfl⟩
  have hi4 : i = 4 * (i / 4) + i % 4 := by omega
  have e1 : ∀ t, n % 256 ^ (4 * (i / 4) + t) / 256 ^ (4 * (i / 4)) = q % 256 ^ t := fun t => by rw [Nat.pow_add, mod_div_mul, hq]
  have e2 : n / 256 ^ i % 256 = q / 256 ^ (i % 4) % 256 := by
    conv => lhs; rw [hi4, Nat.pow_add, ← Nat.div_div_eq_div_mul, ← hq]
  have ht : i % 4 < 4 := Nat.mod_lt _ (by decide)
  have hw : n % 256 ^ i / 256 ^ (4 * (i / 4)) = q % 256 ^ (i % 4) := by
    have := e1 (i % 4); rw [← hi4] at this; exact this
  have hw2 : n % 256 ^ (i + 1) / 256 ^ (4 * (i / 4)) = q % 256 ^ (i % 4 + 1) := by
    have := e1 (i % 4 + 1); rw [← Nat.add_assoc, ← hi4] at this; exact this
  have hlt : q % 256 ^ (i % 4) < 256 ^ (i % 4) := Nat.mod_lt _ (Nat.pow_pos (by decide))
  have hx : n % 256 ^ i / 256 ^ (4 * (i / 4)) % 4294967296 = q % 256 ^ (i % 4) := by
    rw [hw]; exact Nat.mod_eq_of_lt (Nat.lt_of_lt_of_le hlt (show 256 ^ (i % 4) ≤ 256 ^ 4 from Nat.pow_le_pow_right (by decide) (by omega)))
  have hlt2 : q % 256 ^ (i % 4 + 1) < 256 ^ (i % 4 + 1) := Nat.mod_lt _ (Nat.pow_pos (by decide))
  have hx2 : n % 256 ^ (i + 1) / 256 ^ (4 * (i / 4)) % 4294967296 = q % 256 ^ (i % 4) + q / 256 ^ (i % 4) % 256 * 256 ^ (i % 4) := by
    rw [hw2, Nat.mod_eq_of_lt (Nat.lt_of_lt_of_le hlt2 (show 256 ^ (i % 4 + 1) ≤ 256 ^ 4 from Nat.pow_le_pow_right (by decide) (by omega))), Nat.pow_succ, Nat.mod_mul, Nat.mul_comm (256 ^ (i % 4))]
  refine ⟨q % 256 ^ (i % 4), _, _, ?_, rfl, rfl, hlt, ?_⟩
  · rw [wPart_at hi, hx]
  · rw [e2]
    apply List.ext_getElem?
    intro j
    rw [List.getElem?_set]
    by_cases hj : i / 4 = j
    · subst hj
      rw [if_pos rfl, wPart_at hi, hx2, if_pos (by simp [wPart, hi])]
    · rw [if_neg hj]
      by_cases hjm : j < m
      · rw [wPart_at hjm, wPart_at hjm]
        congr 1
        rcases Nat.lt_or_ge j (i / 4) with h | h
        · have f : ∀ r, n % 256 ^ (4 * j + (4 + r)) / 256 ^ (4 * j) % 4294967296 = n / 256 ^ (4 * j) % 4294967296 := fun r => by
            rw [Nat.pow_add, mod_div_mul, Nat.pow_add]
            exact Nat.mod_mul_right_mod _ _ _
          have f1 := f (i - 4 * j - 4)
          have f2 := f (i + 1 - 4 * j - 4)
          rw [show 4 * j + (4 + (i - 4 * j - 4)) = i by omega] at f1
          rw [show 4 * j + (4 + (i + 1 - 4 * j - 4)) = i + 1 by omega] at f2
          rw [f1, f2]
        · have z : ∀ k, k ≤ 4 * j → n % 256 ^ k / 256 ^ (4 * j) = 0 := fun k hk =>
            Nat.div_eq_of_lt (Nat.lt_of_lt_of_le (Nat.mod_lt _ (Nat.pow_pos (by decide))) (Nat.pow_le_pow_right (by decide) hk))
          rw [z i (by omega), z (i + 1) (by omega)]
      · rw [List.getElem?_eq_none (by simp [wPart]; omega), List.getElem?_eq_none (by simp [wPart]; omega)]
theorem pow_big (j : Nat) : 256 ^ (4 * j) = 4294967296 ^ j := by rw [Nat.pow_mul]
theorem wPart_all {m n i : Nat} (h : n < 256 ^ i) : wPart m n i = wDig m n := by
  unfold wPart wDig
  refine List.map_congr_left fun j _ => ?_
  rw [Nat.mod_eq_of_lt h, pow_big]
theorem digs_byte {n k : Nat} (h : k < (digs n).length) : (digs n)[(digs n).length - 1 - k]? = some (UInt8.ofNat (n / 256 ^ k % 256)) := by
  induction k generalizing n with
  | zero =>
    rcases Nat.eq_zero_or_pos n with h0 | h0
    · subst h0; simp [digs_zero] at h
    · rw [digs_pos h0, List.length_append]
      simp
  | succ k ih =>
    rcases Nat.eq_zero_or_pos n with h0 | h0
    · subst h0; simp [digs_zero] at h
    · rw [digs_pos h0] at h ⊢
      rw [List.length_append] at h ⊢
      have h1 : k < (digs (n / 256)).length := by simpa using h
      have := ih (n := n / 256) h1
      rw [List.getElem?_append_left (by simp; omega)]
      rw [show (digs (n / 256)).length + [UInt8.ofNat (n % 256)].length - 1 - (k + 1) = (digs (n / 256)).length - 1 - k by simp; omega, this, Nat.pow_succ, Nat.mul_comm, ← Nat.div_div_eq_div_mul]
theorem or_shift (x b t : Nat) (hx : x < 256 ^ t) : x ||| b * 256 ^ t = x + b * 256 ^ t := by
  have := Nat.shiftLeft_add_eq_or_of_lt (b := x) (i := 8 * t) (by rw [Nat.pow_mul]; exact hx) b
  rw [Nat.shiftLeft_eq, Nat.pow_mul] at this
  rw [Nat.or_comm, ← this, Nat.add_comm]

theorem or_word (x b t : Nat) (V : Int) (hx : x < 256 ^ t) (hb : b < 256) (ht : t < 4) (hV : V = ((b * 256 ^ t : Nat) : Int)) : bits .or .u32 (x : Int) V = ((x + b * 256 ^ t : Nat) : Int) := by
  have h1 : 256 ^ t ≤ 256 ^ 3 := Nat.pow_le_pow_right (by decide) (by omega)
  have h2 : b * 256 ^ t ≤ 255 * 256 ^ 3 := Nat.mul_le_mul (by omega) h1
  rw [hV, u32_or_nat x (b * 256 ^ t) (by omega) (by omega), or_shift x b t hx]
theorem words_put {wr : World} {g m n k j x b t : Nat} {V : Int} (X : Blk wr g 134 (wC (wPart m n k))) (hst : wPart m n (k + 1) = (wPart m n k).set j (x + b * 256 ^ t)) (hor : bits .or .u32 (x : Int) V = ((x + b * 256 ^ t : Nat) : Int)) :
    Blk (wr.setCell ⟨g, j, none⟩ (.int .u32 (bits .or .u32 (x : Int) V))).drew g 134 (wC (wPart m n (k + 1))) := by
  rw [hor, hst, ← wC_set]
  exact (X.set_ j _).drew

set_option maxHeartbeats 2000000 in
theorem words_any (n : Nat) (w : World) (hn : (nS n).size ≤ 100000) :
    Calls Tryz.prog 75 #[.string (nS n)] w fun e w' => ∃ g, e = .returned (.slice (some ⟨g, 0, none⟩) (((nS n).size + 3) / 4) (((nS n).size + 3) / 4)) ∧ w.heap.size ≤ g ∧ Blk w' g 134 (wC (wDig (((nS n).size + 3) / 4) n)) ∧ Below w.heap.size w w' := by
  obtain ⟨m, hm⟩ : ∃ m, m = ((nS n).size + 3) / 4 := ⟨_, rfl⟩
  have hm1 : m ≤ 30000 := by omega
  have hm2 : (nS n).size ≤ 4 * m := by omega
  rw [← hm]
  have hmi : (((nS n).size : Int) + 3) / 4 = (m : Int) := by omega
  have HM := Lib.hid hm
  clear hm
  have hmk := run_make_row' (P := Tryz.prog) 132 134 (.int .u32 0) 4 Tryz.underlying132 info_u32 rfl .i64 .i64 m (by omega) (by omega)
  go_enter Tryz.func75, Tryz.ntmps75
  go_wp2_with fail
  refine (trim_nS n _ hn).mono ?_
  rintro e w' ⟨rfl, rfl⟩
  go_wp2_with fail
  have X0 : Hid (Blk (w.alloc (.cells (madeCells #[.int .u32 0] m) 134)) w.heap.size 134 (wC (wPart m n 0))) := by
    have e : madeCells #[.int .u32 0] m = wC (wPart m n 0) := by
      rw [wPart_zero]
      apply Array.ext
      · simp [size_madeCells, wC]
      · intro i h1 h2
        simp [madeCells, Nat.mod_one, wC]
    unfold Hid
    rw [← e]
    exact Blk.new _ _ _
  have B0 := Lib.hid ((Below.refl w.heap.size w).alloc (Nat.le_refl _) (.cells (madeCells #[.int .u32 0] m) 134))
  clear hmk hmi
  go_loopw [15] (fun i wr => ∃ k : Nat, i = .int .i64 k ∧ k ≤ (nS n).size ∧ Hid (Blk wr w.heap.size 134 (wC (wPart m n k))) ∧ Hid (Below w.heap.size w wr)) (fun i _ => (nS n).size - (intOf i).toNat)
  case atStart => exact ⟨0, rfl, by omega, X0, B0⟩
  case round =>
    clear X0 B0
    obtain ⟨k, rfl, hk, X, B⟩ := hrel
    by_cases hlt : k < (nS n).size
    · obtain ⟨x, b, t, hx, hb, ht, hxt, hst⟩ := wPart_step (m := m) (n := n) (i := k) (by omega)
      obtain ⟨j, hj⟩ : ∃ j, j = k / 4 := ⟨_, rfl⟩
      obtain ⟨p, hp⟩ : ∃ p, p = (nS n).size - 1 - k := ⟨_, rfl⟩
      have hpl : p < (nS n).size := by omega
      have hbv : (nS n)[p].toNat = b := by
        have h1 := digs_byte (n := n) (k := k) (by rw [← nS_size]; exact hlt)
        rw [← nS_size, ← hp] at h1
        have h2 : (nS n).data.toList[p]? = some (nS n)[p] := by rw [List.getElem?_eq_getElem (by rw [← ba_size]; exact hpl)]; rfl
        rw [nS_list, h1] at h2
        injection h2 with h2
        rw [← h2, u8_nat, hb]
      have hbl : b < 256 := by rw [hb]; exact Nat.mod_lt _ (by decide)
      rw [← hj] at hx hst
      have e1 : (k : Int) / 4 = (j : Int) := by omega
      have e2 : (k : Int) % 4 = (t : Int) := by omega
      have e3 : ((nS n).size : Int) - 1 - k = (p : Int) := by omega
      have hjm : j < m := by omega
      have t4 : t < 4 := by omega
      have cx : wr.cell? ⟨w.heap.size, j, none⟩ = some (.int .u32 x) := by rw [X.out.cell]; exact wC_at hx
      have fx := X.out.frozen j
      have HST := Lib.hid hst
      have HX := Lib.hid hx
      clear hx hb ht hst hj hp
      rcases (show t = 0 ∨ t = 1 ∨ t = 2 ∨ t = 3 by omega) with rfl | rfl | rfl | rfl
      · have X2 := Lib.hid (words_put (V := (b : Int)) X.out HST.out (or_word x b 0 _ hxt hbl (by omega) (by simp)))
        have B2 := Lib.hid ((B.out.setCell (p := ⟨w.heap.size, j, none⟩) (Nat.le_refl _) (.int .u32 (bits .or .u32 (x : Int) (b : Int)))).drew)
        go_wp2_with fail
        go_region
        go_wp2_with fail
        go_roundw
        case rel => exact ⟨k + 1, by go_num, by omega, X2, B2⟩
        case measure => simp [intOf]; omega
      · have X2 := Lib.hid (words_put (V := ((b : Int) * 256)) X.out HST.out (or_word x b 1 _ hxt hbl (by omega) (by simp)))
        have B2 := Lib.hid ((B.out.setCell (p := ⟨w.heap.size, j, none⟩) (Nat.le_refl _) (.int .u32 (bits .or .u32 (x : Int) ((b : Int) * 256)))).drew)
        go_wp2_with fail
        go_region
        go_wp2_with fail
        go_roundw
        case rel => exact ⟨k + 1, by go_num, by omega, X2, B2⟩
        case measure => simp [intOf]; omega
      · have X2 := Lib.hid (words_put (V := ((b : Int) * 65536)) X.out HST.out (or_word x b 2 _ hxt hbl (by omega) (by simp)))
        have B2 := Lib.hid ((B.out.setCell (p := ⟨w.heap.size, j, none⟩) (Nat.le_refl _) (.int .u32 (bits .or .u32 (x : Int) ((b : Int) * 65536)))).drew)
        go_wp2_with fail
        go_region
        go_wp2_with fail
        go_roundw
        case rel => exact ⟨k + 1, by go_num, by omega, X2, B2⟩
        case measure => simp [intOf]; omega
      · have X2 := Lib.hid (words_put (V := ((b : Int) * 16777216)) X.out HST.out (or_word x b 3 _ hxt hbl (by omega) (by simp)))
        have B2 := Lib.hid ((B.out.setCell (p := ⟨w.heap.size, j, none⟩) (Nat.le_refl _) (.int .u32 (bits .or .u32 (x : Int) ((b : Int) * 16777216)))).drew)
        go_wp2_with fail
        go_region
        go_wp2_with fail
        go_roundw
        case rel => exact ⟨k + 1, by go_num, by omega, X2, B2⟩
        case measure => simp [intOf]; omega
    · have hkn : k = (nS n).size := by omega
      subst hkn
      have hall : wPart m n (nS n).size = wDig m n := wPart_all (by have := digs_low (n := n) (k := (nS n).size) (by rw [nS_size]; exact Nat.le_refl _); exact this)
      have HALL := Lib.hid hall
      clear hall
      go_wp2_with fail
      go_ret
      exact ⟨w.heap.size, rfl, Nat.le_refl _, by rw [← HALL.out]; exact X.out, B.out⟩

/-! nat.text -/
/-- The last 4 i of 4 m bytes. -/
def tPart (m n i : Nat) : List Nat := (List.range (4 * m)).map fun p => if 4 * (m - i) ≤ p then n / 256 ^ (4 * m - 1 - p) % 256 else 0
def bC (l : List Nat) : Array Value := (l.map fun x : Nat => Value.int .u8 (x : Int)).toArray
theorem bC_set (l : List Nat) (j x : Nat) : (bC l).setIfInBounds j (.int .u8 x) = bC (l.set j x) := by
  apply Array.ext'
  simp [bC, List.map_set]
theorem tPart_zero (m n : Nat) : tPart m n 0 = List.replicate (4 * m) 0 := by
  unfold tPart
  apply List.ext_getElem?
  intro j
  rw [List.getElem?_map, List.getElem?_replicate]
  by_cases h : j < 4 * m
  · rw [if_pos h, List.getElem?_range h, Option.map_some, if_neg (by omega)]
  · rw [if_neg h, List.getElem?_eq_none (by simp; omega)]; rfl
theorem tPart_len (m n i : Nat) : (tPart m n i).length = 4 * m := by simp [tPart]
theorem tPart_all (m n : Nat) : tPart m n m = (bePad (4 * m) n).map fun b : UInt8 => b.toNat := by
  unfold tPart bePad
  rw [List.map_map]
  refine List.map_congr_left fun p hp => ?_
  rw [if_pos (by omega)]
  simp only [Function.comp, u8_nat]
theorem tPart_step {m n i : Nat} (hi : i < m) : ∃ k, k = 4 * (m - 1 - i) ∧ tPart m n (i + 1) = ((((tPart m n i).set k (n / 4294967296 ^ i % 4294967296 / 16777216 % 256)).set (k + 1) (n / 4294967296 ^ i % 4294967296 / 65536 % 256)).set (k + 2) (n / 4294967296 ^ i % 4294967296 / 256 % 256)).set (k + 3) (n / 4294967296 ^ i % 4294967296 % 256) := by
  refine ⟨4 * (m - 1 - i), rfl, ?_⟩
  have f : ∀ r, n / 256 ^ (4 * i + r) % 256 = n / 4294967296 ^ i / 256 ^ r % 256 := fun r => by
    rw [Nat.pow_add, ← Nat.div_div_eq_div_mul, pow_big]
  obtain ⟨q, hq⟩ : ∃ q, q = n / 4294967296 ^ i := ⟨_, rfl⟩
  rw [← hq] at f ⊢
  have f0 := f 0
  have f1 := f 1
  have f2 := f 2
  have f3 := f 3
  apply List.ext_getElem?
  intro p
  simp only [List.getElem?_set, List.length_set, tPart_len]
  by_cases hp : p < 4 * m
  · have old : (tPart m n i)[p]? = some (if 4 * (m - i) ≤ p then n / 256 ^ (4 * m - 1 - p) % 256 else 0) := by unfold tPart; rw [List.getElem?_map, List.getElem?_range hp]; rfl
    have new : (tPart m n (i + 1))[p]? = some (if 4 * (m - (i + 1)) ≤ p then n / 256 ^ (4 * m - 1 - p) % 256 else 0) := by unfold tPart; rw [List.getElem?_map, List.getElem?_range hp]; rfl
    rw [new]
    by_cases h3 : 4 * (m - 1 - i) + 3 = p
    · rw [if_pos h3, if_pos (by omega), if_pos (by omega), show 4 * m - 1 - p = 4 * i + 0 by omega, f0]; congr 1; (first | (simp; done) | (simp; omega))
    · rw [if_neg h3]
      by_cases h2 : 4 * (m - 1 - i) + 2 = p
      · rw [if_pos h2, if_pos (by omega), if_pos (by omega), show 4 * m - 1 - p = 4 * i + 1 by omega, f1]; congr 1; simp; omega
      · rw [if_neg h2]
        by_cases h1 : 4 * (m - 1 - i) + 1 = p
        · rw [if_pos h1, if_pos (by omega), if_pos (by omega), show 4 * m - 1 - p = 4 * i + 2 by omega, f2]; congr 1; simp; omega
        · rw [if_neg h1]
          by_cases h0 : 4 * (m - 1 - i) = p
          · rw [if_pos h0, if_pos (by omega), if_pos (by omega), show 4 * m - 1 - p = 4 * i + 3 by omega, f3]; congr 1; simp; omega
          · rw [if_neg h0, old]
            by_cases hc : 4 * (m - i) ≤ p
            · rw [if_pos hc, if_pos (by omega)]
            · rw [if_neg hc, if_neg (by omega)]
  · rw [List.getElem?_eq_none (by rw [tPart_len]; omega), if_neg (by omega), if_neg (by omega), if_neg (by omega), if_neg (by omega), List.getElem?_eq_none (by rw [tPart_len]; omega)]

set_option maxHeartbeats 2000000 in
theorem text_any (ga c m n : Nat) (w : World) (hm : m ≤ 30000) (hn : n < 256 ^ (4 * m)) (hX : Blk w ga 134 (wC (wDig m n))) :
    Calls Tryz.prog 76 #[.slice (some ⟨ga, 0, none⟩) m c] w fun e w' => e = .returned (.string (nS n)) ∧ Below w.heap.size w w' := by
  have hmk := run_make_row' (P := Tryz.prog) 149 5 (.int .u8 0) 1 Tryz.underlying149 info_u8 rfl .i64 .i64 (4 * m) (by omega) (by omega)
  have hm4 : (((4 * m : Nat) : Int)) = 4 * (m : Int) := by omega
  rw [hm4] at hmk
  have HN := Lib.hid hn
  clear hn hm4
  have X0 : Hid (Blk (w.alloc (.cells (madeCells #[.int .u8 0] (4 * m)) 5)) w.heap.size 5 (bC (tPart m n 0))) := by
    have e : madeCells #[.int .u8 0] (4 * m) = bC (tPart m n 0) := by
      rw [tPart_zero]
      apply Array.ext
      · simp [size_madeCells, bC]
      · intro i h1 h2
        simp [madeCells, Nat.mod_one, bC]
    unfold Hid
    rw [← e]
    exact Blk.new _ _ _
  have B0 := Lib.hid ((Below.refl w.heap.size w).alloc (Nat.le_refl _) (.cells (madeCells #[.int .u8 0] (4 * m)) 5))
  have Y := Lib.hid hX
  clear hX
  go_enter Tryz.func76, Tryz.ntmps76
  go_wp2_with fail
  clear hmk
  go_loopw [13] (fun i wr => ∃ k : Nat, i = .int .i64 k ∧ k ≤ m ∧ Hid (Blk wr w.heap.size 5 (bC (tPart m n k))) ∧ Hid (Below w.heap.size w wr)) (fun i _ => m - (intOf i).toNat)
  case atStart => exact ⟨0, rfl, by omega, X0, B0⟩
  case round =>
    clear X0 B0
    obtain ⟨k, rfl, hk, X, B⟩ := hrel
    by_cases hlt : k < m
    · obtain ⟨p, hp, hst⟩ := tPart_step (n := n) hlt
      have cw : wr.cell? ⟨ga, k, none⟩ = some (.int .u32 ((n / 4294967296 ^ k % 4294967296 : Nat) : Int)) := by
        rw [(Y.out.below B.out Y.out.lt).cell]
        exact wC_at (by unfold wDig; rw [List.getElem?_map, List.getElem?_range hlt]; rfl)
      obtain ⟨x, hx⟩ : ∃ x, x = n / 4294967296 ^ k % 4294967296 := ⟨_, rfl⟩
      rw [← hx] at cw hst
      have hxl : x < 4294967296 := by rw [hx]; exact Nat.mod_lt _ (by decide)
      have e1 : 4 * ((m : Int) - 1 - k) = (p : Int) := by omega
      have hp4 : p + 3 < 4 * m := by omega
      have hp5 : (p : Int) + 3 < 4 * m := by omega
      have fz0 := X.out.frozen p
      have fz1 := X.out.frozen (p + 1)
      have fz2 := X.out.frozen (p + 2)
      have fz3 := X.out.frozen (p + 3)
      have at_ : ∀ j, j < 4 * m → ∃ u, wr.cell? ⟨w.heap.size, j, none⟩ = some u := fun j hj => by
        rw [X.out.cell]
        exact ⟨_, Array.getElem?_eq_getElem (by simp [bC, tPart_len]; exact hj)⟩
      obtain ⟨u0, cu0⟩ := at_ p (by omega)
      obtain ⟨u1, cu1⟩ := at_ (p + 1) (by omega)
      obtain ⟨u2, cu2⟩ := at_ (p + 2) (by omega)
      obtain ⟨u3, cu3⟩ := at_ (p + 3) (by omega)
      have HST := Lib.hid hst
      clear hx hst hp at_
      have X2 : Hid (Blk ((((wr.setCell ⟨w.heap.size, p, none⟩ (.int .u8 ((x : Int) / 16777216))).setCell ⟨w.heap.size, p + 1, none⟩ (.int .u8 ((x : Int) / 65536 % 256))).setCell ⟨w.heap.size, p + 2, none⟩ (.int .u8 ((x : Int) / 256 % 256))).setCell ⟨w.heap.size, p + 3, none⟩ (.int .u8 ((x : Int) % 256))) w.heap.size 5 (bC (tPart m n (k + 1)))) := by
        unfold Hid
        rw [HST.out, ← bC_set, ← bC_set, ← bC_set, ← bC_set]
        have v0 : (x : Int) / 16777216 = ((x / 16777216 % 256 : Nat) : Int) := by omega
        have v1 : (x : Int) / 65536 % 256 = ((x / 65536 % 256 : Nat) : Int) := by omega
        have v2 : (x : Int) / 256 % 256 = ((x / 256 % 256 : Nat) : Int) := by omega
        have v3 : (x : Int) % 256 = ((x % 256 : Nat) : Int) := by omega
        rw [v0, v1, v2, v3]
        exact (((X.out.set_ p _).set_ (p + 1) _).set_ (p + 2) _).set_ (p + 3) _
      have B2 : Hid (Below w.heap.size w ((((wr.setCell ⟨w.heap.size, p, none⟩ (.int .u8 ((x : Int) / 16777216))).setCell ⟨w.heap.size, p + 1, none⟩ (.int .u8 ((x : Int) / 65536 % 256))).setCell ⟨w.heap.size, p + 2, none⟩ (.int .u8 ((x : Int) / 256 % 256))).setCell ⟨w.heap.size, p + 3, none⟩ (.int .u8 ((x : Int) % 256)))) :=
        (((B.out.setCell (p := ⟨w.heap.size, p, none⟩) (Nat.le_refl _) _).setCell (p := ⟨w.heap.size, p + 1, none⟩) (Nat.le_refl _) _).setCell (p := ⟨w.heap.size, p + 2, none⟩) (Nat.le_refl _) _).setCell (p := ⟨w.heap.size, p + 3, none⟩) (Nat.le_refl _) _
      go_wp2_with fail
      go_roundw
      case rel => exact ⟨k + 1, by go_num, by omega, X2, B2⟩
      case measure => simp [intOf]; omega
    · have hkm : k = m := by omega
      subst hkm
      obtain ⟨z, hz⟩ := bePad_eq (4 * k) n HN.out
      have hl : (bePad (4 * k) n).length = 4 * k := by simp [bePad]
      have cv := run_convert_bytes_back (P := Tryz.prog) wr 149 9 5 ⟨w.heap.size, 0, none⟩ (4 * k) (bePad (4 * k) n) Tryz.underlying149 Tryz.underlying5 Tryz.underlying9 (fun j hj => by
        rw [Addr.add_lit, Nat.zero_add, X.out.cell, tPart_all]
        simp only [bC, List.map_map, List.getElem?_toArray, List.getElem?_map, List.getElem?_eq_getElem hj, Option.map_some]
        rfl)
      rw [hl] at cv
      have HZ : Hid ((⟨(bePad (4 * k) n).toArray⟩ : ByteArray).data.toList = List.replicate z 0 ++ digs n) := hz
      have hsz : (⟨(bePad (4 * k) n).toArray⟩ : ByteArray).size ≤ 1000000 := by rw [ba_size]; simp only [hl]; omega
      clear hz hl
      go_wp2_with fail
      refine (trim_pad _ z n _ HZ hsz).mono ?_
      rintro e w2 ⟨rfl, rfl⟩
      go_wp2
      go_ret
      exact ⟨rfl, B.out⟩

/-! nat.less -/
theorem sub_div (X Y A : Nat) (hA : 0 < A) (h : Y ≤ X) : (X - Y) / A + Y / A + (if X % A < Y % A then 1 else 0) = X / A := by
  have h1 := Nat.div_add_mod X A
  have h2 := Nat.div_add_mod Y A
  have r1 := Nat.mod_lt X hA
  have r2 := Nat.mod_lt Y hA
  have hle : Y / A ≤ X / A := Nat.div_le_div_right h
  obtain ⟨p, hp⟩ : ∃ p, p = X / A := ⟨_, rfl⟩
  obtain ⟨q, hq⟩ : ∃ q, q = Y / A := ⟨_, rfl⟩
  rw [← hp] at h1 hle ⊢
  rw [← hq] at h2 hle ⊢
  obtain ⟨d, rfl⟩ : ∃ d, p = q + d := ⟨p - q, by omega⟩
  rw [Nat.mul_add] at h1
  by_cases hc : X % A < Y % A
  · rw [if_pos hc]
    have hd : 0 < d := by
      rcases Nat.eq_zero_or_pos d with h0 | h0
      · subst h0; omega
      · exact h0
    obtain ⟨e, rfl⟩ : ∃ e, d = e + 1 := ⟨d - 1, by omega⟩
    have : (X - Y) / A = e := by
      refine Nat.div_eq_of_lt_le ?_ ?_
      · rw [Nat.mul_comm]; rw [Nat.mul_succ] at h1; omega
      · rw [Nat.mul_comm, Nat.mul_succ]; rw [Nat.mul_succ] at h1; omega
    omega
  · rw [if_neg hc]
    have : (X - Y) / A = d := by
      refine Nat.div_eq_of_lt_le ?_ ?_
      · rw [Nat.mul_comm]; omega
      · rw [Nat.mul_comm, Nat.mul_succ]; omega
    omega
/-- Whether a borrow comes into digit i. -/
def bw (X Y i : Nat) : Nat := if X % 4294967296 ^ i < Y % 4294967296 ^ i then 1 else 0
theorem bw_zero (X Y : Nat) : bw X Y 0 = 0 := by simp [bw, Nat.mod_one]
theorem bw_le (X Y i : Nat) : bw X Y i ≤ 1 := by unfold bw; split <;> omega
theorem bw_step {X Y i x y : Nat} (h : Y ≤ X) (hx : x = X / 4294967296 ^ i % 4294967296) (hy : y = Y / 4294967296 ^ i % 4294967296) :
    (y + bw X Y i ≤ x ∧ bw X Y (i + 1) = 0 ∧ (X - Y) / 4294967296 ^ i % 4294967296 = x - y - bw X Y i) ∨ (x < y + bw X Y i ∧ bw X Y (i + 1) = 1 ∧ (X - Y) / 4294967296 ^ i % 4294967296 = 4294967296 + x - y - bw X Y i) := by
  have hA : 0 < 4294967296 ^ i := Nat.pow_pos (by decide)
  have key := sub_div X Y (4294967296 ^ i) hA h
  have m1 : X % 4294967296 ^ (i + 1) = X % 4294967296 ^ i + 4294967296 ^ i * x := by rw [Nat.pow_succ, Nat.mod_mul, hx]
  have m2 : Y % 4294967296 ^ (i + 1) = Y % 4294967296 ^ i + 4294967296 ^ i * y := by rw [Nat.pow_succ, Nat.mod_mul, hy]
  have r1 := Nat.mod_lt X hA
  have r2 := Nat.mod_lt Y hA
  have kb : bw X Y i = if X % 4294967296 ^ i < Y % 4294967296 ^ i then 1 else 0 := rfl
  have kb1 : bw X Y (i + 1) = if X % 4294967296 ^ (i + 1) < Y % 4294967296 ^ (i + 1) then 1 else 0 := rfl
  rw [← kb] at key
  rw [m1, m2] at kb1
  generalize 4294967296 ^ i = A at *
  generalize X / A = P at *
  generalize Y / A = Q at *
  generalize X % A = R at *
  generalize Y % A = S at *
  have hb := bw_le X Y i
  by_cases hc : R < S
  · rw [if_pos hc] at kb
    rw [kb] at key ⊢
    by_cases hxy : x < y + 1
    · right
      have : A * x + A ≤ A * (y + 1) := by rw [← Nat.mul_succ]; exact Nat.mul_le_mul_left A (by omega)
      rw [Nat.mul_succ] at this
      rw [if_pos (by omega)] at kb1
      exact ⟨hxy, kb1, by omega⟩
    · left
      have : A * (y + 1) ≤ A * x := Nat.mul_le_mul_left A (by omega)
      rw [Nat.mul_succ] at this
      rw [if_neg (by omega)] at kb1
      exact ⟨by omega, kb1, by omega⟩
  · rw [if_neg hc] at kb
    rw [kb] at key ⊢
    by_cases hxy : x < y
    · right
      have : A * (x + 1) ≤ A * y := Nat.mul_le_mul_left A (by omega)
      rw [Nat.mul_succ] at this
      rw [if_pos (by omega)] at kb1
      exact ⟨by omega, kb1, by omega⟩
    · left
      have : A * y ≤ A * x := Nat.mul_le_mul_left A (by omega)
      rw [if_neg (by omega)] at kb1
      exact ⟨by omega, kb1, by omega⟩
/-- The first i digits are those of the difference. -/
def lPart (m X Y i : Nat) : List Nat := (List.range m).map fun j => if j < i then (X - Y) / 4294967296 ^ j % 4294967296 else X / 4294967296 ^ j % 4294967296
theorem lPart_zero (m X Y : Nat) : lPart m X Y 0 = wDig m X := by unfold lPart wDig; simp
theorem lPart_all (m X Y : Nat) : lPart m X Y m = wDig m (X - Y) := by
  unfold lPart wDig
  refine List.map_congr_left fun j hj => ?_
  rw [List.mem_range] at hj
  rw [if_pos hj]
theorem lPart_at {m X Y i : Nat} (h : i < m) : (lPart m X Y i)[i]? = some (X / 4294967296 ^ i % 4294967296) := by
  unfold lPart; rw [List.getElem?_map, List.getElem?_range h, Option.map_some, if_neg (by omega)]
theorem lPart_step {m X Y i d : Nat} (h : i < m) (hd : (X - Y) / 4294967296 ^ i % 4294967296 = d) : lPart m X Y (i + 1) = (lPart m X Y i).set i d := by
  apply List.ext_getElem?
  intro j
  rw [List.getElem?_set]
  by_cases hj : j < m
  · have e : ∀ i, (lPart m X Y i)[j]? = some (if j < i then (X - Y) / 4294967296 ^ j % 4294967296 else X / 4294967296 ^ j % 4294967296) := fun i => by
      unfold lPart; rw [List.getElem?_map, List.getElem?_range hj]; rfl
    rw [e, e]
    by_cases h1 : i = j
    · subst h1; rw [if_pos rfl, if_pos (by omega), if_pos (by simp [lPart, h]), hd]
    · rw [if_neg h1]
      by_cases h2 : j < i
      · rw [if_pos h2, if_pos (by omega)]
      · rw [if_neg h2, if_neg (by omega)]
  · rw [List.getElem?_eq_none (by simp [lPart]; omega), if_neg (by omega), List.getElem?_eq_none (by simp [lPart]; omega)]
end Go.Proofs.YtmfejdikfpckdaaGreatDoor

namespace Go.Proofs.YtmfejdikfpckdaaGreatDoor
open Go.RowKit
set_option linter.unusedVariables false
set_option maxRecDepth 100000

theorem grown_set {w wr : World} {g : Nat} (h : GrB w wr (some g)) (j : Nat) (u : Value) : GrB w (wr.setCell ⟨g, j, none⟩ u) (some g) :=
  h.trans ⟨rfl, rfl, rfl, by simp [World.setCell], Nat.le_refl _, fun k _ hk => Below.heap_setCell wr ⟨g, j, none⟩ u k (by simpa using hk)⟩
theorem wDig_at {m n j : Nat} (h : j < m) : (wDig m n)[j]? = some (n / 4294967296 ^ j % 4294967296) := by unfold wDig; rw [List.getElem?_map, List.getElem?_range h]; rfl
/-- What a round computes. -/
theorem less_nums {X Y i x y b : Nat} (h : Y ≤ X) (hx : x = X / 4294967296 ^ i % 4294967296) (hy : y = Y / 4294967296 ^ i % 4294967296) (hb : b = bw X Y i) :
    ∃ (N1 N : Int) (d b' : Nat), IntKind.u64.wrap ((x : Int) - b) = N1 ∧ IntKind.u64.wrap (N1 - y) = N ∧ N % 4294967296 = d ∧ N / 9223372036854775808 = b' ∧ 0 ≤ N1 ∧ N1 ≤ 18446744073709551615 ∧ 0 ≤ N ∧ N ≤ 18446744073709551615 ∧ (y = 0 → N = N1) ∧ b' = bw X Y (i + 1) ∧ (X - Y) / 4294967296 ^ i % 4294967296 = d ∧ d < 4294967296 := by
  have hxl : x < 4294967296 := by rw [hx]; exact Nat.mod_lt _ (by decide)
  have hyl : y < 4294967296 := by rw [hy]; exact Nat.mod_lt _ (by decide)
  have hbl := bw_le X Y i
  rw [← hb] at hbl
  have w64 : ∀ n : Int, -18446744073709551616 ≤ n → n ≤ 18446744073709551615 → IntKind.u64.wrap n = if n < 0 then n + 18446744073709551616 else n := by
    intro n h1 h2
    split
    · have : IntKind.u64.wrap n = n % 18446744073709551616 := by simp [IntKind.wrap, IntKind.bits, IntKind.signed]
      rw [this]; omega
    · exact IntWalk.u64_in _ ⟨by omega, h2⟩
  rcases bw_step h hx hy with ⟨h1, h2, h3⟩ | ⟨h1, h2, h3⟩
  · rw [← hb] at h1 h3
    refine ⟨x - b, x - b - y, x - y - b, 0, ?_, ?_, by omega, by omega, by omega, by omega, by omega, by omega, fun e => by omega, h2.symm, h3, by omega⟩
    · rw [w64 _ (by omega) (by omega), if_neg (by omega)]
    · rw [w64 _ (by omega) (by omega), if_neg (by omega)]
  · rw [← hb] at h1 h3
    by_cases hc : b ≤ x
    · refine ⟨x - b, 18446744073709551616 + x - b - y, 4294967296 + x - y - b, 1, ?_, ?_, by omega, by omega, by omega, by omega, by omega, by omega, fun e => by omega, h2.symm, h3, by omega⟩
      · rw [w64 _ (by omega) (by omega), if_neg (by omega)]
      · rw [w64 _ (by omega) (by omega), if_pos (by omega)]; omega
    · refine ⟨18446744073709551615, 18446744073709551615 - y, 4294967296 + x - y - b, 1, ?_, ?_, by omega, by omega, by omega, by omega, by omega, by omega, fun e => by omega, h2.symm, h3, by omega⟩
      · rw [w64 _ (by omega) (by omega), if_pos (by omega)]; omega
      · rw [w64 _ (by omega) (by omega), if_neg (by omega)]

set_option maxHeartbeats 2000000 in
theorem less_any (gx cx m gy cy k X Y : Nat) (w : World) (hm : m ≤ 30000) (hk : k ≤ 30000) (hX : Blk w gx 134 (wC (wDig m X))) (hY : Blk w gy 134 (wC (wDig k Y))) (hne : gy ≠ gx) (hle : Y ≤ X) (hYk : Y < 4294967296 ^ k) :
    Calls Tryz.prog 86 #[.slice (some ⟨gx, 0, none⟩) m cx, .slice (some ⟨gy, 0, none⟩) k cy] w fun e w' => e = .returned (.tuple #[]) ∧ Blk w' gx 134 (wC (wDig m (X - Y))) ∧ GrB w w' (some gx) := by
  have X0 : Hid (Blk w gx 134 (wC (lPart m X Y 0))) := by unfold Hid; rw [lPart_zero]; exact hX
  have Y0 := Lib.hid hY
  have HLE := Lib.hid hle
  have HYK := Lib.hid hYk
  have HNE := Lib.hid hne
  clear hX hY hle hYk hne
  go_enter Tryz.func86, Tryz.ntmps86
  go_wp2_with fail
  go_loopw [4, 10] (fun b i wr => ∃ k : Nat, i = .int .i64 k ∧ k ≤ m ∧ b = .int .u64 (bw X Y k) ∧ Hid (Blk wr gx 134 (wC (lPart m X Y k))) ∧ Hid (GrB w wr (some gx))) (fun _ i _ => m - (intOf i).toNat)
  case atStart => exact ⟨0, rfl, by omega, by rw [bw_zero]; rfl, X0, GrB.refl w _⟩
  case round =>
    clear X0
    obtain ⟨j, rfl, hj, rfl, XX, GG⟩ := hrel
    by_cases hlt : j < m
    · obtain ⟨x, hx⟩ : ∃ x, x = X / 4294967296 ^ j % 4294967296 := ⟨_, rfl⟩
      obtain ⟨y, hy⟩ : ∃ y, y = Y / 4294967296 ^ j % 4294967296 := ⟨_, rfl⟩
      obtain ⟨b, hb⟩ : ∃ b, b = bw X Y j := ⟨_, rfl⟩
      obtain ⟨N1, N, d, b', h1, h2, h3, h4, n1, n2, n3, n4, h5, h6, h7, h8⟩ := less_nums HLE.out hx hy hb
      have cX : wr.cell? ⟨gx, j, none⟩ = some (.int .u32 x) := by rw [XX.out.cell, hx]; exact wC_at (lPart_at hlt)
      have fX := XX.out.frozen j
      have hxl : x < 4294967296 := by rw [hx]; exact Nat.mod_lt _ (by decide)
      have hyl : y < 4294967296 := by rw [hy]; exact Nat.mod_lt _ (by decide)
      have X2 : Hid (Blk (wr.setCell ⟨gx, j, none⟩ (.int .u32 d)) gx 134 (wC (lPart m X Y (j + 1)))) := by
        unfold Hid
        rw [lPart_step hlt h7, ← wC_set]
        exact XX.out.set_ j _
      have G2 := Lib.hid (grown_set GG.out j (.int .u32 d))
      have H6 : Hid ((.int .u64 (b' : Int) : Value) = .int .u64 (bw X Y (j + 1))) := by unfold Hid; rw [h6]
      rw [← hb]
      by_cases hjk : j < k
      · have cY : wr.cell? ⟨gy, j, none⟩ = some (.int .u32 y) := by
          rw [(Y0.out.grown GG.out (by simpa using HNE.out)).cell, hy]; exact wC_at (wDig_at hjk)
        clear hx hy hb h5 h6 h7
        go_wp2_with fail
        go_roundw
        case rel => exact ⟨j + 1, by go_num, by omega, H6.out, X2, G2⟩
        case measure => simp [intOf]; omega
      · have hy0 : y = 0 := by
          rw [hy, Nat.div_eq_of_lt (Nat.lt_of_lt_of_le HYK.out (Nat.pow_le_pow_right (by decide) (by omega)))]
        have hNN := h5 hy0
        subst hNN
        clear hx hy hb h5 h6 h7 h2 hy0
        go_wp2_with fail
        go_roundw
        case rel => exact ⟨j + 1, by go_num, by omega, H6.out, X2, G2⟩
        case measure => simp [intOf]; omega
    · have hjm : j = m := by omega
      subst hjm
      have XF := Lib.hid (lPart_all j X Y ▸ XX.out)
      go_wp2_with fail
      go_end0
      exact ⟨rfl, XF.out, GG.out⟩

theorem nS_low (n : Nat) : n < 4294967296 ^ (((nS n).size + 3) / 4) := by
  have h := digs_low (n := n) (k := (nS n).size) (by rw [nS_size]; exact Nat.le_refl _)
  rw [show (4294967296 : Nat) = 256 ^ 4 from rfl, ← Nat.pow_mul]
  exact Nat.lt_of_lt_of_le h (Nat.pow_le_pow_right (by decide) (by omega))
set_option maxHeartbeats 2000000 in
theorem Sub_any (a b : Nat) (w : World) (ha : (nS a).size ≤ 100000) (hb : (nS b).size ≤ 100000) (hle : b ≤ a) :
    Calls Tryz.prog 69 #[.string (nS a), .string (nS b)] w fun e w' => e = .returned (.tuple #[.string (nS (a - b)), .int .i64 0]) ∧ Below w.heap.size w w' := by
  obtain ⟨r, hr⟩ : ∃ r, cmpN a b = r := ⟨_, rfl⟩
  have hr0 : 0 ≤ r := by rw [← hr, cmpN]; split; omega; split <;> omega
  have HR := Lib.hid hr
  have HLE := Lib.hid hle
  have HA := Lib.hid ha
  have HB := Lib.hid hb
  clear hr hle ha hb
  go_enter Tryz.func69, Tryz.ntmps69
  go_wp2_with fail
  refine (Cmp_any a b r _ HA.out HB.out HR).mono ?_
  rintro e w' ⟨rfl, rfl⟩
  go_wp2_with fail
  refine (words_any a _ HA.out).mono ?_
  rintro e w1 ⟨gx, rfl, hgx, hX, hb1⟩
  have X1 := Lib.hid hX
  have B1 := Lib.hid hb1
  clear hX hb1
  go_wp2_with fail
  refine (words_any b _ HB.out).mono ?_
  rintro e w2 ⟨gy, rfl, hgy, hY, hb2⟩
  have X2 := Lib.hid (X1.out.below hb2 X1.out.lt)
  have Y2 := Lib.hid hY
  have B2 := Lib.hid (B1.out.trans (hb2.mono B1.out.size))
  have HNE : Hid (gy ≠ gx) := by have := X1.out.lt; unfold Hid; omega
  clear hY hb2 X1 B1 hgy
  go_wp2_with fail
  refine (less_any gx _ _ gy _ _ a b _ (by have := HA.out; omega) (by have := HB.out; omega) X2.out Y2.out HNE.out HLE.out (nS_low b)).mono ?_
  rintro e w3 ⟨rfl, hX, hg3⟩
  have X3 := Lib.hid hX
  have B3 := Lib.hid (B2.out.grown hg3 B2.out.size (fun k hk => by cases hk; exact hgx))
  clear hX hg3 X2 Y2 B2 HNE
  go_wp2_with fail
  refine (text_any gx _ _ (a - b) _ (by have := HA.out; omega) (Nat.lt_of_le_of_lt (Nat.sub_le a b) (by have := nS_low a; rw [show (4294967296 : Nat) = 256 ^ 4 from rfl, ← Nat.pow_mul] at this; exact this)) X3.out).mono ?_
  rintro e w4 ⟨rfl, hb4⟩
  have B4 := Lib.hid (B3.out.trans (hb4.mono B3.out.size))
  clear hb4
  go_wp2_with fail
  go_ret2
  exact ⟨rfl, B4.out⟩
set_option maxHeartbeats 1000000 in
theorem Sub_no (a b : Nat) (w : World) (ha : (nS a).size ≤ 100000) (hb : (nS b).size ≤ 100000) (hlt : a < b) :
    Calls Tryz.prog 69 #[.string (nS a), .string (nS b)] w fun e w' => e = .returned (.tuple #[.string ⟨#[]⟩, .int .i64 1]) ∧ w = w' := by
  have hr : Hid (cmpN a b = -1) := by unfold Hid cmpN; rw [if_pos hlt]
  clear hlt
  have HA := Lib.hid ha
  have HB := Lib.hid hb
  clear ha hb
  go_enter Tryz.func69, Tryz.ntmps69
  go_wp2_with fail
  refine (Cmp_any a b (-1) _ HA.out HB.out hr).mono ?_
  rintro e w' ⟨rfl, rfl⟩
  go_wp2_with fail
  go_ret2
  exact ⟨rfl, rfl⟩
end Go.Proofs.YtmfejdikfpckdaaGreatDoor

namespace Go.Proofs.YtmfejdikfpckdaaGreatDoor
open Go.RowKit
set_option linter.unusedVariables false
set_option maxRecDepth 100000

theorem dig_lt (X i : Nat) : X / 4294967296 ^ i % 4294967296 < 4294967296 := Nat.mod_lt _ (by decide)
theorem pw_pos (i : Nat) : 0 < 4294967296 ^ i := Nat.pow_pos (by decide)
theorem mod_succ (X i : Nat) : X % 4294967296 ^ (i + 1) = X % 4294967296 ^ i + 4294967296 ^ i * (X / 4294967296 ^ i % 4294967296) := by rw [Nat.pow_succ, Nat.mod_mul]
theorem div_two (A B n t : Nat) (ht : t < A) : (A * n + t) / (A * B) = n / B := by
  rw [← Nat.div_div_eq_div_mul, Nat.mul_add_div (by omega), Nat.div_eq_of_lt ht, Nat.add_zero]
/-- The first i digits are those of n, the others 0. -/
def aPart (m n i : Nat) : List Nat := (List.range m).map fun j => if j < i then n / 4294967296 ^ j % 4294967296 else 0
theorem aPart_len (m n i : Nat) : (aPart m n i).length = m := by simp [aPart]
theorem aPart_at {m n i j : Nat} (h : j < m) : (aPart m n i)[j]? = some (if j < i then n / 4294967296 ^ j % 4294967296 else 0) := by
  unfold aPart; rw [List.getElem?_map, List.getElem?_range h]; rfl
theorem aPart_zero (m n : Nat) : aPart m n 0 = List.replicate m 0 := by
  apply List.ext_getElem?
  intro j
  by_cases h : j < m
  · rw [aPart_at h, List.getElem?_replicate, if_pos h, if_neg (by omega)]
  · rw [List.getElem?_eq_none (by simp [aPart]; omega), List.getElem?_eq_none (by simp; omega)]
theorem aPart_step {m n i d : Nat} (h : i < m) (hd : n / 4294967296 ^ i % 4294967296 = d) : aPart m n (i + 1) = (aPart m n i).set i d := by
  apply List.ext_getElem?
  intro j
  rw [List.getElem?_set]
  by_cases hj : j < m
  · rw [aPart_at hj, aPart_at hj]
    by_cases h1 : i = j
    · subst h1; rw [if_pos rfl, if_pos (by omega), if_pos (by rw [aPart_len]; exact h), hd]
    · rw [if_neg h1]
      by_cases h2 : j < i
      · rw [if_pos h2, if_pos (by omega)]
      · rw [if_neg h2, if_neg (by omega)]
  · rw [List.getElem?_eq_none (by simp [aPart]; omega), if_neg (by omega), List.getElem?_eq_none (by simp [aPart]; omega)]
theorem aPart_all (m n : Nat) : aPart m n m = wDig m n := by
  unfold aPart wDig
  exact List.map_congr_left fun j hj => by rw [List.mem_range] at hj; rw [if_pos hj]
theorem made_wC (m : Nat) : madeCells #[.int .u32 0] m = wC (List.replicate m 0) := by
  apply Array.ext
  · simp [size_madeCells, wC]
  · intro i h1 h2
    simp [madeCells, Nat.mod_one, wC]

/-- The carry into digit i of a sum. -/
def cyA (X Y i : Nat) : Nat := (X % 4294967296 ^ i + Y % 4294967296 ^ i) / 4294967296 ^ i
theorem cyA_zero (X Y : Nat) : cyA X Y 0 = 0 := by simp [cyA, Nat.mod_one]
theorem cyA_le (X Y i : Nat) : cyA X Y i ≤ 1 := by
  have h1 := Nat.mod_lt X (pw_pos i)
  have h2 := Nat.mod_lt Y (pw_pos i)
  have : cyA X Y i < 2 := by unfold cyA; rw [Nat.div_lt_iff_lt_mul (pw_pos i)]; omega
  omega
theorem cyA_step {X Y i x y : Nat} (hx : x = X / 4294967296 ^ i % 4294967296) (hy : y = Y / 4294967296 ^ i % 4294967296) :
    (X + Y) / 4294967296 ^ i % 4294967296 = (cyA X Y i + x + y) % 4294967296 ∧ cyA X Y (i + 1) = (cyA X Y i + x + y) / 4294967296 := by
  have hA := pw_pos i
  have e0 := Nat.div_add_mod (X % 4294967296 ^ i + Y % 4294967296 ^ i) (4294967296 ^ i)
  have hc : cyA X Y i = (X % 4294967296 ^ i + Y % 4294967296 ^ i) / 4294967296 ^ i := rfl
  have m1 := mod_succ X i
  have m2 := mod_succ Y i
  have d1 := Nat.div_add_mod X (4294967296 ^ i)
  have d2 := Nat.div_add_mod Y (4294967296 ^ i)
  have e1 := Nat.div_add_mod (X / 4294967296 ^ i) 4294967296
  have e2 := Nat.div_add_mod (Y / 4294967296 ^ i) 4294967296
  rw [← hx] at m1 e1
  rw [← hy] at m2 e2
  have hc1 : cyA X Y (i + 1) = (X % 4294967296 ^ (i + 1) + Y % 4294967296 ^ (i + 1)) / (4294967296 ^ i * 4294967296) := by unfold cyA; rw [Nat.pow_succ]
  rw [← hc] at e0
  rw [hc1, m1, m2]
  have ht := Nat.mod_lt (X % 4294967296 ^ i + Y % 4294967296 ^ i) hA
  generalize 4294967296 ^ i = A at *
  generalize cyA X Y i = c at *
  generalize (X % A + Y % A) % A = t at *
  constructor
  · generalize X / A / 4294967296 = u at *
    generalize Y / A / 4294967296 = v at *
    have : X + Y = A * (4294967296 * (u + v) + (c + x + y)) + t := by
      rw [← d1, ← d2, ← e1, ← e2]
      simp only [Nat.mul_add] at *
      omega
    rw [this, Nat.mul_add_div hA, Nat.div_eq_of_lt ht, Nat.add_zero, Nat.mul_add_mod]
  · have : X % A + A * x + (Y % A + A * y) = A * (c + x + y) + t := by simp only [Nat.mul_add]; omega
    rw [this, div_two _ _ _ _ ht]
theorem add_nums {X Y i x y c : Nat} (hx : x = X / 4294967296 ^ i % 4294967296) (hy : y = Y / 4294967296 ^ i % 4294967296) (hc : c = cyA X Y i) :
    ∃ (N1 N : Int) (d c' : Nat), IntKind.u64.wrap ((c : Int) + x) = N1 ∧ IntKind.u64.wrap (N1 + y) = N ∧ N % 4294967296 = d ∧ N / 4294967296 = c' ∧ 0 ≤ N1 ∧ N1 ≤ 18446744073709551615 ∧ 0 ≤ N ∧ N ≤ 18446744073709551615 ∧ (y = 0 → N = N1) ∧ c' = cyA X Y (i + 1) ∧ (X + Y) / 4294967296 ^ i % 4294967296 = d ∧ d < 4294967296 ∧ c' ≤ 1 := by
  have hxl : x < 4294967296 := by rw [hx]; exact dig_lt X i
  have hyl : y < 4294967296 := by rw [hy]; exact dig_lt Y i
  have hcl := cyA_le X Y i
  obtain ⟨h1, h2⟩ := cyA_step hx hy
  rw [← hc] at h1 h2 hcl
  have hc2 := cyA_le X Y (i + 1)
  refine ⟨c + x, c + x + y, (c + x + y) % 4294967296, (c + x + y) / 4294967296, IntWalk.u64_in _ (by omega), IntWalk.u64_in _ (by omega), by omega, by omega, by omega, by omega, by omega, by omega, fun e => by omega, h2.symm, h1, by omega, by rw [← h2]; exact hc2⟩

theorem dig_high {Y k j : Nat} (h : Y < 4294967296 ^ k) (hj : k ≤ j) : Y / 4294967296 ^ j % 4294967296 = 0 := by
  rw [Nat.div_eq_of_lt (Nat.lt_of_lt_of_le h (Nat.pow_le_pow_right (by decide) hj))]
set_option maxHeartbeats 4000000 in
theorem AddL_any (a b : Nat) (w : World) (ha : (nS a).size ≤ 100000) (hb : (nS b).size ≤ 100000) (hl : ¬ ((nS a).size < 8 ∧ (nS b).size < 8)) :
    Calls Tryz.prog 46 #[.string (nS a), .string (nS b)] w fun e w' => e = .returned (.string (nS (a + b))) ∧ Below w.heap.size w w' := by
  obtain ⟨ma, hma⟩ : ∃ m, m = ((nS a).size + 3) / 4 := ⟨_, rfl⟩
  obtain ⟨mb, hmb⟩ : ∃ m, m = ((nS b).size + 3) / 4 := ⟨_, rfl⟩
  have la : a < 4294967296 ^ ma := by rw [hma]; exact nS_low a
  have lb : b < 4294967296 ^ mb := by rw [hmb]; exact nS_low b
  have WA := fun w => words_any a w ha
  have WB := fun w => words_any b w hb
  rw [← hma] at WA
  rw [← hmb] at WB
  have ma1 : ma ≤ 25000 := by omega
  have mb1 : mb ≤ 25000 := by omega
  have LA := Lib.hid la
  have LB := Lib.hid lb
  have HA := Lib.hid ha
  have HB := Lib.hid hb
  clear hma hmb la lb
  have hl2 : (nS a).size < 8 → ¬ (nS b).size < 8 := fun h1 h2 => hl ⟨h1, h2⟩
  clear hl ha hb
  have start : ∀ (Q : World → Prop), True := fun _ => trivial
  clear start
  by_cases h8 : (nS a).size < 8
  · have h9 : ¬ (nS b).size < 8 := hl2 h8
    clear hl2
    go_enter Tryz.func46, Tryz.ntmps46
    go_wp2_with fail
    refine (trim_nS a _ HA.out).mono ?_
    rintro e w' ⟨rfl, rfl⟩
    go_wp2_with fail
    refine (trim_nS b _ HB.out).mono ?_
    rintro e w' ⟨rfl, rfl⟩
    go_wp2_with fail
    refine (WA _).mono ?_
    rintro e w1 ⟨ga, rfl, hga, hX, hb1⟩
    have X1 := Lib.hid hX
    have B1 := Lib.hid hb1
    clear hX hb1
    go_wp2_with fail
    refine (WB _).mono ?_
    rintro e w2 ⟨gb, rfl, hgb, hY, hb2⟩
    have X2 := Lib.hid (X1.out.below hb2 X1.out.lt)
    have Y2 := Lib.hid hY
    have B2 := Lib.hid (B1.out.trans (hb2.mono B1.out.size))
    clear hY hb2 X1 B1 hgb hga WA WB
    by_cases hsw : ma < mb
    · have hmk := run_make_row' (P := Tryz.prog) 132 134 (.int .u32 0) 4 Tryz.underlying132 info_u32 rfl .i64 .i64 (mb + 1) (by omega) (by omega)
      have hmc : (((mb + 1 : Nat)) : Int) = (mb : Int) + 1 := by omega
      rw [hmc] at hmk
      have Z0 : Hid (Blk (w2.alloc (.cells (madeCells #[.int .u32 0] (mb + 1)) 134)) w2.heap.size 134 (wC (aPart (mb + 1) (b + a) 0))) := by
        unfold Hid
        rw [aPart_zero, ← made_wC]
        exact Blk.new _ _ _
      have P0 := Lib.hid (Y2.out.alloc (.cells (madeCells #[.int .u32 0] (mb + 1)) 134))
      have Q0 := Lib.hid (X2.out.alloc (.cells (madeCells #[.int .u32 0] (mb + 1)) 134))
      have B3 := Lib.hid (B2.out.alloc B2.out.size (.cells (madeCells #[.int .u32 0] (mb + 1)) 134))
      have hn1 : gb < w2.heap.size := Y2.out.lt
      have hn2 : ga < w2.heap.size := X2.out.lt
      have hn3 : w.heap.size ≤ w2.heap.size := B2.out.size
      clear hmc
      go_wp2_with fail
      clear hmk
      generalize hW3 : w2.alloc (.cells (madeCells #[.int .u32 0] (mb + 1)) 134) = w3 at Z0 P0 Q0 B3 ⊢
      clear hW3
      obtain ⟨gz, hgz⟩ : ∃ g, g = w2.heap.size := ⟨_, rfl⟩
      rw [← hgz] at hn1 hn2 hn3 Z0 ⊢
      clear hgz X2 Y2 B2
      go_loopw [8, 46] (fun c i wr => ∃ k : Nat, i = .int .i64 k ∧ k ≤ mb ∧ c = .int .u64 (cyA b a k) ∧ Hid (Blk wr gz 134 (wC (aPart (mb + 1) (b + a) k))) ∧ Hid (GrB w3 wr (some gz))) (fun _ i _ => mb - (intOf i).toNat)
      case atStart => exact ⟨0, rfl, by omega, by rw [cyA_zero]; rfl, Z0, GrB.refl w3 _⟩
      case round =>
        clear Z0
        obtain ⟨j, rfl, hj, rfl, ZZ, GG⟩ := hrel
        have PX := Lib.hid (P0.out.grown GG.out (by simp; omega))
        have PY := Lib.hid (Q0.out.grown GG.out (by simp; omega))
        by_cases hlt : j < mb
        · obtain ⟨x, hx⟩ : ∃ x, x = b / 4294967296 ^ j % 4294967296 := ⟨_, rfl⟩
          obtain ⟨y, hy⟩ : ∃ y, y = a / 4294967296 ^ j % 4294967296 := ⟨_, rfl⟩
          obtain ⟨c, hc⟩ : ∃ c, c = cyA b a j := ⟨_, rfl⟩
          obtain ⟨N1, N, d, c', h1, h2, h3, h4, n1, n2, n3, n4, h5, h6, h7, h8, h10⟩ := add_nums hx hy hc
          have hcl : c ≤ 1 := by rw [hc]; exact cyA_le _ _ _
          have cX : wr.cell? ⟨gb, j, none⟩ = some (.int .u32 x) := by rw [PX.out.cell, hx]; exact wC_at (wDig_at hlt)
          have hxl : x < 4294967296 := by rw [hx]; exact dig_lt _ _
          have hyl : y < 4294967296 := by rw [hy]; exact dig_lt _ _
          have fZ := ZZ.out.frozen j
          obtain ⟨u, cZ⟩ : ∃ u, wr.cell? ⟨gz, j, none⟩ = some u := ⟨_, by rw [ZZ.out.cell]; exact Array.getElem?_eq_getElem (by simp [wC, aPart_len]; omega)⟩
          have Z2 : Hid (Blk (wr.setCell ⟨gz, j, none⟩ (.int .u32 d)) gz 134 (wC (aPart (mb + 1) (b + a) (j + 1)))) := by
            unfold Hid
            rw [aPart_step (by omega) h7, ← wC_set]
            exact ZZ.out.set_ j _
          have G2 := Lib.hid (grown_set GG.out j (.int .u32 d))
          have H6 : Hid ((.int .u64 (c' : Int) : Value) = .int .u64 (cyA b a (j + 1))) := by unfold Hid; rw [h6]
          rw [← hc]
          by_cases hjk : j < ma
          · have cY : wr.cell? ⟨ga, j, none⟩ = some (.int .u32 y) := by rw [PY.out.cell, hy]; exact wC_at (wDig_at hjk)
            clear hx hy hc h5 h6 h7
            go_wp2_with fail
            go_roundw
            case rel => exact ⟨j + 1, by go_num, by omega, H6.out, Z2, G2⟩
            case measure => simp [intOf]; omega
          · have hy0 : y = 0 := by rw [hy]; exact dig_high LA.out (by omega)
            have hNN := h5 hy0
            subst hNN
            clear hx hy hc h5 h6 h7 h2 hy0
            go_wp2_with fail
            go_roundw
            case rel => exact ⟨j + 1, by go_num, by omega, H6.out, Z2, G2⟩
            case measure => simp [intOf]; omega
        · have hjm : j = mb := by omega
          subst hjm
          have hXm : cyA b a j = (b + a) / 4294967296 ^ j % 4294967296 := by
            have e1 : b % 4294967296 ^ j = b := Nat.mod_eq_of_lt LB.out
            have e2 : a % 4294967296 ^ j = a := Nat.mod_eq_of_lt (Nat.lt_of_lt_of_le LA.out (Nat.pow_le_pow_right (by decide) (by omega)))
            have e3 := cyA_le b a j
            have e4 : cyA b a j = (b + a) / 4294967296 ^ j := by unfold cyA; rw [e1, e2]
            rw [← e4]
            exact (Nat.mod_eq_of_lt (by omega)).symm
          obtain ⟨c, hc⟩ : ∃ c, c = cyA b a j := ⟨_, rfl⟩
          have hcl : c ≤ 1 := by rw [hc]; exact cyA_le _ _ _
          have fZ := ZZ.out.frozen j
          obtain ⟨u, cZ⟩ : ∃ u, wr.cell? ⟨gz, j, none⟩ = some u := ⟨_, by rw [ZZ.out.cell]; exact Array.getElem?_eq_getElem (by simp [wC, aPart_len])⟩
          have Z2 : Hid (Blk (wr.setCell ⟨gz, j, none⟩ (.int .u32 (c : Int))) gz 134 (wC (wDig (j + 1) (b + a)))) := by
            unfold Hid
            rw [← aPart_all, aPart_step (by omega) hXm.symm, ← hc, ← wC_set]
            exact ZZ.out.set_ j _
          have B4 := Lib.hid (B3.out.grown (grown_set GG.out j (.int .u32 (c : Int))) B3.out.size (fun k hk => by cases hk; exact hn3))
          have HS : Hid (b + a < 256 ^ (4 * (j + 1))) := by
            unfold Hid
            rw [pow_big, Nat.pow_succ]
            have := LB.out
            have h2 : a < 4294967296 ^ j := Nat.lt_of_lt_of_le LA.out (Nat.pow_le_pow_right (by decide) (by omega))
            omega
          rw [← hc]
          clear hXm hc
          go_wp2_with fail
          refine (text_any gz _ (j + 1) (b + a) _ (by omega) HS.out Z2.out).mono ?_
          rintro e w4 ⟨rfl, hb4⟩
          have B5 := Lib.hid (B4.out.trans (hb4.mono B4.out.size))
          clear hb4
          go_wp2_with fail
          go_ret
          exact ⟨congrArg (fun n => Ending.returned (.string (nS n))) (Nat.add_comm _ _), B5.out⟩
    · have hmk := run_make_row' (P := Tryz.prog) 132 134 (.int .u32 0) 4 Tryz.underlying132 info_u32 rfl .i64 .i64 (ma + 1) (by omega) (by omega)
      have hmc : (((ma + 1 : Nat)) : Int) = (ma : Int) + 1 := by omega
      rw [hmc] at hmk
      have Z0 : Hid (Blk (w2.alloc (.cells (madeCells #[.int .u32 0] (ma + 1)) 134)) w2.heap.size 134 (wC (aPart (ma + 1) (a + b) 0))) := by
        unfold Hid
        rw [aPart_zero, ← made_wC]
        exact Blk.new _ _ _
      have P0 := Lib.hid (X2.out.alloc (.cells (madeCells #[.int .u32 0] (ma + 1)) 134))
      have Q0 := Lib.hid (Y2.out.alloc (.cells (madeCells #[.int .u32 0] (ma + 1)) 134))
      have B3 := Lib.hid (B2.out.alloc B2.out.size (.cells (madeCells #[.int .u32 0] (ma + 1)) 134))
      have hn1 : ga < w2.heap.size := X2.out.lt
      have hn2 : gb < w2.heap.size := Y2.out.lt
      have hn3 : w.heap.size ≤ w2.heap.size := B2.out.size
      clear hmc
      go_wp2_with fail
      clear hmk
      generalize hW3 : w2.alloc (.cells (madeCells #[.int .u32 0] (ma + 1)) 134) = w3 at Z0 P0 Q0 B3 ⊢
      clear hW3
      obtain ⟨gz, hgz⟩ : ∃ g, g = w2.heap.size := ⟨_, rfl⟩
      rw [← hgz] at hn1 hn2 hn3 Z0 ⊢
      clear hgz X2 Y2 B2
      go_loopw [8, 46] (fun c i wr => ∃ k : Nat, i = .int .i64 k ∧ k ≤ ma ∧ c = .int .u64 (cyA a b k) ∧ Hid (Blk wr gz 134 (wC (aPart (ma + 1) (a + b) k))) ∧ Hid (GrB w3 wr (some gz))) (fun _ i _ => ma - (intOf i).toNat)
      case atStart => exact ⟨0, rfl, by omega, by rw [cyA_zero]; rfl, Z0, GrB.refl w3 _⟩
      case round =>
        clear Z0
        obtain ⟨j, rfl, hj, rfl, ZZ, GG⟩ := hrel
        have PX := Lib.hid (P0.out.grown GG.out (by simp; omega))
        have PY := Lib.hid (Q0.out.grown GG.out (by simp; omega))
        by_cases hlt : j < ma
        · obtain ⟨x, hx⟩ : ∃ x, x = a / 4294967296 ^ j % 4294967296 := ⟨_, rfl⟩
          obtain ⟨y, hy⟩ : ∃ y, y = b / 4294967296 ^ j % 4294967296 := ⟨_, rfl⟩
          obtain ⟨c, hc⟩ : ∃ c, c = cyA a b j := ⟨_, rfl⟩
          obtain ⟨N1, N, d, c', h1, h2, h3, h4, n1, n2, n3, n4, h5, h6, h7, h8, h10⟩ := add_nums hx hy hc
          have hcl : c ≤ 1 := by rw [hc]; exact cyA_le _ _ _
          have cX : wr.cell? ⟨ga, j, none⟩ = some (.int .u32 x) := by rw [PX.out.cell, hx]; exact wC_at (wDig_at hlt)
          have hxl : x < 4294967296 := by rw [hx]; exact dig_lt _ _
          have hyl : y < 4294967296 := by rw [hy]; exact dig_lt _ _
          have fZ := ZZ.out.frozen j
          obtain ⟨u, cZ⟩ : ∃ u, wr.cell? ⟨gz, j, none⟩ = some u := ⟨_, by rw [ZZ.out.cell]; exact Array.getElem?_eq_getElem (by simp [wC, aPart_len]; omega)⟩
          have Z2 : Hid (Blk (wr.setCell ⟨gz, j, none⟩ (.int .u32 d)) gz 134 (wC (aPart (ma + 1) (a + b) (j + 1)))) := by
            unfold Hid
            rw [aPart_step (by omega) h7, ← wC_set]
            exact ZZ.out.set_ j _
          have G2 := Lib.hid (grown_set GG.out j (.int .u32 d))
          have H6 : Hid ((.int .u64 (c' : Int) : Value) = .int .u64 (cyA a b (j + 1))) := by unfold Hid; rw [h6]
          rw [← hc]
          by_cases hjk : j < mb
          · have cY : wr.cell? ⟨gb, j, none⟩ = some (.int .u32 y) := by rw [PY.out.cell, hy]; exact wC_at (wDig_at hjk)
            clear hx hy hc h5 h6 h7
            go_wp2_with fail
            go_roundw
            case rel => exact ⟨j + 1, by go_num, by omega, H6.out, Z2, G2⟩
            case measure => simp [intOf]; omega
          · have hy0 : y = 0 := by rw [hy]; exact dig_high LB.out (by omega)
            have hNN := h5 hy0
            subst hNN
            clear hx hy hc h5 h6 h7 h2 hy0
            go_wp2_with fail
            go_roundw
            case rel => exact ⟨j + 1, by go_num, by omega, H6.out, Z2, G2⟩
            case measure => simp [intOf]; omega
        · have hjm : j = ma := by omega
          subst hjm
          have hXm : cyA a b j = (a + b) / 4294967296 ^ j % 4294967296 := by
            have e1 : a % 4294967296 ^ j = a := Nat.mod_eq_of_lt LA.out
            have e2 : b % 4294967296 ^ j = b := Nat.mod_eq_of_lt (Nat.lt_of_lt_of_le LB.out (Nat.pow_le_pow_right (by decide) (by omega)))
            have e3 := cyA_le a b j
            have e4 : cyA a b j = (a + b) / 4294967296 ^ j := by unfold cyA; rw [e1, e2]
            rw [← e4]
            exact (Nat.mod_eq_of_lt (by omega)).symm
          obtain ⟨c, hc⟩ : ∃ c, c = cyA a b j := ⟨_, rfl⟩
          have hcl : c ≤ 1 := by rw [hc]; exact cyA_le _ _ _
          have fZ := ZZ.out.frozen j
          obtain ⟨u, cZ⟩ : ∃ u, wr.cell? ⟨gz, j, none⟩ = some u := ⟨_, by rw [ZZ.out.cell]; exact Array.getElem?_eq_getElem (by simp [wC, aPart_len])⟩
          have Z2 : Hid (Blk (wr.setCell ⟨gz, j, none⟩ (.int .u32 (c : Int))) gz 134 (wC (wDig (j + 1) (a + b)))) := by
            unfold Hid
            rw [← aPart_all, aPart_step (by omega) hXm.symm, ← hc, ← wC_set]
            exact ZZ.out.set_ j _
          have B4 := Lib.hid (B3.out.grown (grown_set GG.out j (.int .u32 (c : Int))) B3.out.size (fun k hk => by cases hk; exact hn3))
          have HS : Hid (a + b < 256 ^ (4 * (j + 1))) := by
            unfold Hid
            rw [pow_big, Nat.pow_succ]
            have := LA.out
            have h2 : b < 4294967296 ^ j := Nat.lt_of_lt_of_le LB.out (Nat.pow_le_pow_right (by decide) (by omega))
            omega
          rw [← hc]
          clear hXm hc
          go_wp2_with fail
          refine (text_any gz _ (j + 1) (a + b) _ (by omega) HS.out Z2.out).mono ?_
          rintro e w4 ⟨rfl, hb4⟩
          have B5 := Lib.hid (B4.out.trans (hb4.mono B4.out.size))
          clear hb4
          go_wp2_with fail
          go_ret
          exact ⟨rfl, B5.out⟩
  · clear hl2
    go_enter Tryz.func46, Tryz.ntmps46
    go_wp2_with fail
    refine (trim_nS a _ HA.out).mono ?_
    rintro e w' ⟨rfl, rfl⟩
    go_wp2_with fail
    refine (trim_nS b _ HB.out).mono ?_
    rintro e w' ⟨rfl, rfl⟩
    go_wp2_with fail
    refine (WA _).mono ?_
    rintro e w1 ⟨ga, rfl, hga, hX, hb1⟩
    have X1 := Lib.hid hX
    have B1 := Lib.hid hb1
    clear hX hb1
    go_wp2_with fail
    refine (WB _).mono ?_
    rintro e w2 ⟨gb, rfl, hgb, hY, hb2⟩
    have X2 := Lib.hid (X1.out.below hb2 X1.out.lt)
    have Y2 := Lib.hid hY
    have B2 := Lib.hid (B1.out.trans (hb2.mono B1.out.size))
    clear hY hb2 X1 B1 hgb hga WA WB
    by_cases hsw : ma < mb
    · have hmk := run_make_row' (P := Tryz.prog) 132 134 (.int .u32 0) 4 Tryz.underlying132 info_u32 rfl .i64 .i64 (mb + 1) (by omega) (by omega)
      have hmc : (((mb + 1 : Nat)) : Int) = (mb : Int) + 1 := by omega
      rw [hmc] at hmk
      have Z0 : Hid (Blk (w2.alloc (.cells (madeCells #[.int .u32 0] (mb + 1)) 134)) w2.heap.size 134 (wC (aPart (mb + 1) (b + a) 0))) := by
        unfold Hid
        rw [aPart_zero, ← made_wC]
        exact Blk.new _ _ _
      have P0 := Lib.hid (Y2.out.alloc (.cells (madeCells #[.int .u32 0] (mb + 1)) 134))
      have Q0 := Lib.hid (X2.out.alloc (.cells (madeCells #[.int .u32 0] (mb + 1)) 134))
      have B3 := Lib.hid (B2.out.alloc B2.out.size (.cells (madeCells #[.int .u32 0] (mb + 1)) 134))
      have hn1 : gb < w2.heap.size := Y2.out.lt
      have hn2 : ga < w2.heap.size := X2.out.lt
      have hn3 : w.heap.size ≤ w2.heap.size := B2.out.size
      clear hmc
      go_wp2_with fail
      clear hmk
      generalize hW3 : w2.alloc (.cells (madeCells #[.int .u32 0] (mb + 1)) 134) = w3 at Z0 P0 Q0 B3 ⊢
      clear hW3
      obtain ⟨gz, hgz⟩ : ∃ g, g = w2.heap.size := ⟨_, rfl⟩
      rw [← hgz] at hn1 hn2 hn3 Z0 ⊢
      clear hgz X2 Y2 B2
      go_loopw [8, 46] (fun c i wr => ∃ k : Nat, i = .int .i64 k ∧ k ≤ mb ∧ c = .int .u64 (cyA b a k) ∧ Hid (Blk wr gz 134 (wC (aPart (mb + 1) (b + a) k))) ∧ Hid (GrB w3 wr (some gz))) (fun _ i _ => mb - (intOf i).toNat)
      case atStart => exact ⟨0, rfl, by omega, by rw [cyA_zero]; rfl, Z0, GrB.refl w3 _⟩
      case round =>
        clear Z0
        obtain ⟨j, rfl, hj, rfl, ZZ, GG⟩ := hrel
        have PX := Lib.hid (P0.out.grown GG.out (by simp; omega))
        have PY := Lib.hid (Q0.out.grown GG.out (by simp; omega))
        by_cases hlt : j < mb
        · obtain ⟨x, hx⟩ : ∃ x, x = b / 4294967296 ^ j % 4294967296 := ⟨_, rfl⟩
          obtain ⟨y, hy⟩ : ∃ y, y = a / 4294967296 ^ j % 4294967296 := ⟨_, rfl⟩
          obtain ⟨c, hc⟩ : ∃ c, c = cyA b a j := ⟨_, rfl⟩
          obtain ⟨N1, N, d, c', h1, h2, h3, h4, n1, n2, n3, n4, h5, h6, h7, h8, h10⟩ := add_nums hx hy hc
          have hcl : c ≤ 1 := by rw [hc]; exact cyA_le _ _ _
          have cX : wr.cell? ⟨gb, j, none⟩ = some (.int .u32 x) := by rw [PX.out.cell, hx]; exact wC_at (wDig_at hlt)
          have hxl : x < 4294967296 := by rw [hx]; exact dig_lt _ _
          have hyl : y < 4294967296 := by rw [hy]; exact dig_lt _ _
          have fZ := ZZ.out.frozen j
          obtain ⟨u, cZ⟩ : ∃ u, wr.cell? ⟨gz, j, none⟩ = some u := ⟨_, by rw [ZZ.out.cell]; exact Array.getElem?_eq_getElem (by simp [wC, aPart_len]; omega)⟩
          have Z2 : Hid (Blk (wr.setCell ⟨gz, j, none⟩ (.int .u32 d)) gz 134 (wC (aPart (mb + 1) (b + a) (j + 1)))) := by
            unfold Hid
            rw [aPart_step (by omega) h7, ← wC_set]
            exact ZZ.out.set_ j _
          have G2 := Lib.hid (grown_set GG.out j (.int .u32 d))
          have H6 : Hid ((.int .u64 (c' : Int) : Value) = .int .u64 (cyA b a (j + 1))) := by unfold Hid; rw [h6]
          rw [← hc]
          by_cases hjk : j < ma
          · have cY : wr.cell? ⟨ga, j, none⟩ = some (.int .u32 y) := by rw [PY.out.cell, hy]; exact wC_at (wDig_at hjk)
            clear hx hy hc h5 h6 h7
            go_wp2_with fail
            go_roundw
            case rel => exact ⟨j + 1, by go_num, by omega, H6.out, Z2, G2⟩
            case measure => simp [intOf]; omega
          · have hy0 : y = 0 := by rw [hy]; exact dig_high LA.out (by omega)
            have hNN := h5 hy0
            subst hNN
            clear hx hy hc h5 h6 h7 h2 hy0
            go_wp2_with fail
            go_roundw
            case rel => exact ⟨j + 1, by go_num, by omega, H6.out, Z2, G2⟩
            case measure => simp [intOf]; omega
        · have hjm : j = mb := by omega
          subst hjm
          have hXm : cyA b a j = (b + a) / 4294967296 ^ j % 4294967296 := by
            have e1 : b % 4294967296 ^ j = b := Nat.mod_eq_of_lt LB.out
            have e2 : a % 4294967296 ^ j = a := Nat.mod_eq_of_lt (Nat.lt_of_lt_of_le LA.out (Nat.pow_le_pow_right (by decide) (by omega)))
            have e3 := cyA_le b a j
            have e4 : cyA b a j = (b + a) / 4294967296 ^ j := by unfold cyA; rw [e1, e2]
            rw [← e4]
            exact (Nat.mod_eq_of_lt (by omega)).symm
          obtain ⟨c, hc⟩ : ∃ c, c = cyA b a j := ⟨_, rfl⟩
          have hcl : c ≤ 1 := by rw [hc]; exact cyA_le _ _ _
          have fZ := ZZ.out.frozen j
          obtain ⟨u, cZ⟩ : ∃ u, wr.cell? ⟨gz, j, none⟩ = some u := ⟨_, by rw [ZZ.out.cell]; exact Array.getElem?_eq_getElem (by simp [wC, aPart_len])⟩
          have Z2 : Hid (Blk (wr.setCell ⟨gz, j, none⟩ (.int .u32 (c : Int))) gz 134 (wC (wDig (j + 1) (b + a)))) := by
            unfold Hid
            rw [← aPart_all, aPart_step (by omega) hXm.symm, ← hc, ← wC_set]
            exact ZZ.out.set_ j _
          have B4 := Lib.hid (B3.out.grown (grown_set GG.out j (.int .u32 (c : Int))) B3.out.size (fun k hk => by cases hk; exact hn3))
          have HS : Hid (b + a < 256 ^ (4 * (j + 1))) := by
            unfold Hid
            rw [pow_big, Nat.pow_succ]
            have := LB.out
            have h2 : a < 4294967296 ^ j := Nat.lt_of_lt_of_le LA.out (Nat.pow_le_pow_right (by decide) (by omega))
            omega
          rw [← hc]
          clear hXm hc
          go_wp2_with fail
          refine (text_any gz _ (j + 1) (b + a) _ (by omega) HS.out Z2.out).mono ?_
          rintro e w4 ⟨rfl, hb4⟩
          have B5 := Lib.hid (B4.out.trans (hb4.mono B4.out.size))
          clear hb4
          go_wp2_with fail
          go_ret
          exact ⟨congrArg (fun n => Ending.returned (.string (nS n))) (Nat.add_comm _ _), B5.out⟩
    · have hmk := run_make_row' (P := Tryz.prog) 132 134 (.int .u32 0) 4 Tryz.underlying132 info_u32 rfl .i64 .i64 (ma + 1) (by omega) (by omega)
      have hmc : (((ma + 1 : Nat)) : Int) = (ma : Int) + 1 := by omega
      rw [hmc] at hmk
      have Z0 : Hid (Blk (w2.alloc (.cells (madeCells #[.int .u32 0] (ma + 1)) 134)) w2.heap.size 134 (wC (aPart (ma + 1) (a + b) 0))) := by
        unfold Hid
        rw [aPart_zero, ← made_wC]
        exact Blk.new _ _ _
      have P0 := Lib.hid (X2.out.alloc (.cells (madeCells #[.int .u32 0] (ma + 1)) 134))
      have Q0 := Lib.hid (Y2.out.alloc (.cells (madeCells #[.int .u32 0] (ma + 1)) 134))
      have B3 := Lib.hid (B2.out.alloc B2.out.size (.cells (madeCells #[.int .u32 0] (ma + 1)) 134))
      have hn1 : ga < w2.heap.size := X2.out.lt
      have hn2 : gb < w2.heap.size := Y2.out.lt
      have hn3 : w.heap.size ≤ w2.heap.size := B2.out.size
      clear hmc
      go_wp2_with fail
      clear hmk
      generalize hW3 : w2.alloc (.cells (madeCells #[.int .u32 0] (ma + 1)) 134) = w3 at Z0 P0 Q0 B3 ⊢
      clear hW3
      obtain ⟨gz, hgz⟩ : ∃ g, g = w2.heap.size := ⟨_, rfl⟩
      rw [← hgz] at hn1 hn2 hn3 Z0 ⊢
      clear hgz X2 Y2 B2
      go_loopw [8, 46] (fun c i wr => ∃ k : Nat, i = .int .i64 k ∧ k ≤ ma ∧ c = .int .u64 (cyA a b k) ∧ Hid (Blk wr gz 134 (wC (aPart (ma + 1) (a + b) k))) ∧ Hid (GrB w3 wr (some gz))) (fun _ i _ => ma - (intOf i).toNat)
      case atStart => exact ⟨0, rfl, by omega, by rw [cyA_zero]; rfl, Z0, GrB.refl w3 _⟩
      case round =>
        clear Z0
        obtain ⟨j, rfl, hj, rfl, ZZ, GG⟩ := hrel
        have PX := Lib.hid (P0.out.grown GG.out (by simp; omega))
        have PY := Lib.hid (Q0.out.grown GG.out (by simp; omega))
        by_cases hlt : j < ma
        · obtain ⟨x, hx⟩ : ∃ x, x = a / 4294967296 ^ j % 4294967296 := ⟨_, rfl⟩
          obtain ⟨y, hy⟩ : ∃ y, y = b / 4294967296 ^ j % 4294967296 := ⟨_, rfl⟩
          obtain ⟨c, hc⟩ : ∃ c, c = cyA a b j := ⟨_, rfl⟩
          obtain ⟨N1, N, d, c', h1, h2, h3, h4, n1, n2, n3, n4, h5, h6, h7, h8, h10⟩ := add_nums hx hy hc
          have hcl : c ≤ 1 := by rw [hc]; exact cyA_le _ _ _
          have cX : wr.cell? ⟨ga, j, none⟩ = some (.int .u32 x) := by rw [PX.out.cell, hx]; exact wC_at (wDig_at hlt)
          have hxl : x < 4294967296 := by rw [hx]; exact dig_lt _ _
          have hyl : y < 4294967296 := by rw [hy]; exact dig_lt _ _
          have fZ := ZZ.out.frozen j
          obtain ⟨u, cZ⟩ : ∃ u, wr.cell? ⟨gz, j, none⟩ = some u := ⟨_, by rw [ZZ.out.cell]; exact Array.getElem?_eq_getElem (by simp [wC, aPart_len]; omega)⟩
          have Z2 : Hid (Blk (wr.setCell ⟨gz, j, none⟩ (.int .u32 d)) gz 134 (wC (aPart (ma + 1) (a + b) (j + 1)))) := by
            unfold Hid
            rw [aPart_step (by omega) h7, ← wC_set]
            exact ZZ.out.set_ j _
          have G2 := Lib.hid (grown_set GG.out j (.int .u32 d))
          have H6 : Hid ((.int .u64 (c' : Int) : Value) = .int .u64 (cyA a b (j + 1))) := by unfold Hid; rw [h6]
          rw [← hc]
          by_cases hjk : j < mb
          · have cY : wr.cell? ⟨gb, j, none⟩ = some (.int .u32 y) := by rw [PY.out.cell, hy]; exact wC_at (wDig_at hjk)
            clear hx hy hc h5 h6 h7
            go_wp2_with fail
            go_roundw
            case rel => exact ⟨j + 1, by go_num, by omega, H6.out, Z2, G2⟩
            case measure => simp [intOf]; omega
          · have hy0 : y = 0 := by rw [hy]; exact dig_high LB.out (by omega)
            have hNN := h5 hy0
            subst hNN
            clear hx hy hc h5 h6 h7 h2 hy0
            go_wp2_with fail
            go_roundw
            case rel => exact ⟨j + 1, by go_num, by omega, H6.out, Z2, G2⟩
            case measure => simp [intOf]; omega
        · have hjm : j = ma := by omega
          subst hjm
          have hXm : cyA a b j = (a + b) / 4294967296 ^ j % 4294967296 := by
            have e1 : a % 4294967296 ^ j = a := Nat.mod_eq_of_lt LA.out
            have e2 : b % 4294967296 ^ j = b := Nat.mod_eq_of_lt (Nat.lt_of_lt_of_le LB.out (Nat.pow_le_pow_right (by decide) (by omega)))
            have e3 := cyA_le a b j
            have e4 : cyA a b j = (a + b) / 4294967296 ^ j := by unfold cyA; rw [e1, e2]
            rw [← e4]
            exact (Nat.mod_eq_of_lt (by omega)).symm
          obtain ⟨c, hc⟩ : ∃ c, c = cyA a b j := ⟨_, rfl⟩
          have hcl : c ≤ 1 := by rw [hc]; exact cyA_le _ _ _
          have fZ := ZZ.out.frozen j
          obtain ⟨u, cZ⟩ : ∃ u, wr.cell? ⟨gz, j, none⟩ = some u := ⟨_, by rw [ZZ.out.cell]; exact Array.getElem?_eq_getElem (by simp [wC, aPart_len])⟩
          have Z2 : Hid (Blk (wr.setCell ⟨gz, j, none⟩ (.int .u32 (c : Int))) gz 134 (wC (wDig (j + 1) (a + b)))) := by
            unfold Hid
            rw [← aPart_all, aPart_step (by omega) hXm.symm, ← hc, ← wC_set]
            exact ZZ.out.set_ j _
          have B4 := Lib.hid (B3.out.grown (grown_set GG.out j (.int .u32 (c : Int))) B3.out.size (fun k hk => by cases hk; exact hn3))
          have HS : Hid (a + b < 256 ^ (4 * (j + 1))) := by
            unfold Hid
            rw [pow_big, Nat.pow_succ]
            have := LA.out
            have h2 : b < 4294967296 ^ j := Nat.lt_of_lt_of_le LB.out (Nat.pow_le_pow_right (by decide) (by omega))
            omega
          rw [← hc]
          clear hXm hc
          go_wp2_with fail
          refine (text_any gz _ (j + 1) (a + b) _ (by omega) HS.out Z2.out).mono ?_
          rintro e w4 ⟨rfl, hb4⟩
          have B5 := Lib.hid (B4.out.trans (hb4.mono B4.out.size))
          clear hb4
          go_wp2_with fail
          go_ret
          exact ⟨rfl, B5.out⟩

theorem AddG (a b : Nat) (w : World) (ha : (nS a).size ≤ 100000) (hb : (nS b).size ≤ 100000) :
    Calls Tryz.prog 46 #[.string (nS a), .string (nS b)] w fun e w' => e = .returned (.string (nS (a + b))) ∧ Below w.heap.size w w' := by
  by_cases h : (nS a).size < 8 ∧ (nS b).size < 8
  · exact Add_any a b w (digs_low (k := 7) (by have := h.1; rw [nS_size] at this; omega)) (digs_low (k := 7) (by have := h.2; rw [nS_size] at this; omega))
  · exact AddL_any a b w ha hb h
end Go.Proofs.YtmfejdikfpckdaaGreatDoor

namespace Go.Proofs.YtmfejdikfpckdaaGreatDoor
open Go.RowKit
set_option linter.unusedVariables false
set_option maxRecDepth 100000

/-- The first p digits are those of S, the others those of N. -/
def mPart (M S N p : Nat) : List Nat := (List.range M).map fun j => if j < p then S / 4294967296 ^ j % 4294967296 else N / 4294967296 ^ j % 4294967296
theorem mPart_len (M S N p : Nat) : (mPart M S N p).length = M := by simp [mPart]
theorem mPart_at {M S N p j : Nat} (h : j < M) : (mPart M S N p)[j]? = some (if j < p then S / 4294967296 ^ j % 4294967296 else N / 4294967296 ^ j % 4294967296) := by
  unfold mPart; rw [List.getElem?_map, List.getElem?_range h]; rfl
theorem mPart_step {M S N p d : Nat} (h : p < M) (hd : S / 4294967296 ^ p % 4294967296 = d) : mPart M S N (p + 1) = (mPart M S N p).set p d := by
  apply List.ext_getElem?
  intro j
  rw [List.getElem?_set]
  by_cases hj : j < M
  · rw [mPart_at hj, mPart_at hj]
    by_cases h1 : p = j
    · subst h1; rw [if_pos rfl, if_pos (by omega), if_pos (by rw [mPart_len]; exact h), hd]
    · rw [if_neg h1]
      by_cases h2 : j < p
      · rw [if_pos h2, if_pos (by omega)]
      · rw [if_neg h2, if_neg (by omega)]
  · rw [List.getElem?_eq_none (by simp [mPart]; omega), if_neg (by omega), List.getElem?_eq_none (by simp [mPart]; omega)]
theorem mPart_same {M S N p : Nat} (h : ∀ j, j < p → S / 4294967296 ^ j % 4294967296 = N / 4294967296 ^ j % 4294967296) : mPart M S N p = wDig M N := by
  unfold mPart wDig
  refine List.map_congr_left fun j _ => ?_
  split
  · exact h j ‹_›
  · rfl
theorem mPart_full {M S N p : Nat} (h : ∀ j, p ≤ j → S / 4294967296 ^ j % 4294967296 = N / 4294967296 ^ j % 4294967296) : mPart M S N p = wDig M S := by
  unfold mPart wDig
  refine List.map_congr_left fun j _ => ?_
  split
  · rfl
  · exact (h j (by omega)).symm
/-- The carry. -/
def cyM (N w Y i k : Nat) : Nat := (N % 4294967296 ^ (i + k) + w * (Y % 4294967296 ^ k) * 4294967296 ^ i) / 4294967296 ^ (i + k)
theorem cyM_zero (N w Y i : Nat) : cyM N w Y i 0 = 0 := by
  unfold cyM
  rw [Nat.pow_zero, Nat.mod_one, Nat.mul_zero, Nat.zero_mul, Nat.add_zero, Nat.add_zero]
  exact Nat.div_eq_of_lt (Nat.mod_lt _ (pw_pos _))
theorem cyM_lt {N w Y i k : Nat} (hw : w < 4294967296) : cyM N w Y i k < 4294967296 := by
  unfold cyM
  rw [Nat.div_lt_iff_lt_mul (pw_pos _), Nat.pow_add]
  have h1 := Nat.mod_lt N (pw_pos (i + k))
  rw [Nat.pow_add] at h1
  have h2 : Y % 4294967296 ^ k + 1 ≤ 4294967296 ^ k := Nat.mod_lt Y (pw_pos k)
  have h3 : w * (Y % 4294967296 ^ k) ≤ 4294967295 * (Y % 4294967296 ^ k) := Nat.mul_le_mul_right _ (by omega)
  have h4 := Nat.mul_le_mul_right (4294967296 ^ i) h3
  have h5 : (Y % 4294967296 ^ k + 1) * 4294967296 ^ i ≤ 4294967296 ^ k * 4294967296 ^ i := Nat.mul_le_mul_right _ h2
  rw [Nat.mul_comm (4294967296 ^ k) (4294967296 ^ i)] at h5
  rw [Nat.add_mul, Nat.one_mul] at h5
  rw [Nat.mul_assoc 4294967295] at h4
  have hE := pw_pos i
  generalize (Y % 4294967296 ^ k) * 4294967296 ^ i = T at *
  generalize w * (Y % 4294967296 ^ k) * 4294967296 ^ i = V at *
  generalize 4294967296 ^ i * 4294967296 ^ k = A at *
  generalize N % A = r at *
  omega
theorem cyM_step {N w Y i k y o S : Nat} (hS : S = N + w * Y * 4294967296 ^ i) (hy : y = Y / 4294967296 ^ k % 4294967296) (ho : o = N / 4294967296 ^ (i + k) % 4294967296) :
    S / 4294967296 ^ (i + k) % 4294967296 = (cyM N w Y i k + (w * y + o)) % 4294967296 ∧ cyM N w Y i (k + 1) = (cyM N w Y i k + (w * y + o)) / 4294967296 := by
  have hA := pw_pos (i + k)
  have hc : cyM N w Y i k = (N % 4294967296 ^ (i + k) + w * (Y % 4294967296 ^ k) * 4294967296 ^ i) / 4294967296 ^ (i + k) := rfl
  have hc1 : cyM N w Y i (k + 1) = (N % 4294967296 ^ (i + k + 1) + w * (Y % 4294967296 ^ (k + 1)) * 4294967296 ^ i) / (4294967296 ^ (i + k) * 4294967296) := by
    unfold cyM; rw [← Nat.add_assoc, Nat.pow_succ 4294967296 (i + k)]
  have e0 := Nat.div_add_mod (N % 4294967296 ^ (i + k) + w * (Y % 4294967296 ^ k) * 4294967296 ^ i) (4294967296 ^ (i + k))
  rw [← hc] at e0
  have ht := Nat.mod_lt (N % 4294967296 ^ (i + k) + w * (Y % 4294967296 ^ k) * 4294967296 ^ i) hA
  have m1 := mod_succ N (i + k)
  have m2 := mod_succ Y k
  have d1 := Nat.div_add_mod N (4294967296 ^ (i + k))
  have d2 := Nat.div_add_mod Y (4294967296 ^ k)
  have f1 := Nat.div_add_mod (N / 4294967296 ^ (i + k)) 4294967296
  have f2 := Nat.div_add_mod (Y / 4294967296 ^ k) 4294967296
  rw [← ho] at m1 f1
  rw [← hy] at m2 f2
  rw [hc1, m1, m2]
  have hp : 4294967296 ^ (i + k) = 4294967296 ^ k * 4294967296 ^ i := by rw [Nat.add_comm, Nat.pow_add]
  have q1 : w * (Y % 4294967296 ^ k + 4294967296 ^ k * y) * 4294967296 ^ i = w * (Y % 4294967296 ^ k) * 4294967296 ^ i + 4294967296 ^ (i + k) * (w * y) := by
    rw [hp, Nat.mul_add, Nat.add_mul, show w * (4294967296 ^ k * y) * 4294967296 ^ i = 4294967296 ^ k * 4294967296 ^ i * (w * y) by ac_rfl]
  constructor
  · have q2 : w * Y * 4294967296 ^ i = w * (Y % 4294967296 ^ k) * 4294967296 ^ i + 4294967296 ^ (i + k) * (w * (4294967296 * (Y / 4294967296 ^ k / 4294967296) + y)) := by
      conv => lhs; rw [← d2, ← f2]
      rw [hp, Nat.mul_add, Nat.add_mul, show w * (4294967296 ^ k * (4294967296 * (Y / 4294967296 ^ k / 4294967296) + y)) * 4294967296 ^ i = 4294967296 ^ k * 4294967296 ^ i * (w * (4294967296 * (Y / 4294967296 ^ k / 4294967296) + y)) by ac_rfl, Nat.add_comm]
    rw [hS, q2]
    generalize w * (Y % 4294967296 ^ k) * 4294967296 ^ i = V at *
    generalize 4294967296 ^ (i + k) = A at *
    generalize Y / 4294967296 ^ k / 4294967296 = v at *
    generalize cyM N w Y i k = c at *
    generalize (N % A + V) % A = t at *
    generalize N / A / 4294967296 = u at *
    have q3 : w * (4294967296 * v + y) = 4294967296 * (w * v) + w * y := by rw [Nat.mul_add, show w * (4294967296 * v) = 4294967296 * (w * v) by ac_rfl]
    rw [q3]
    have : N + (V + A * (4294967296 * (w * v) + w * y)) = A * (4294967296 * (u + w * v) + (c + (w * y + o))) + t := by
      rw [← d1, ← f1]
      simp only [Nat.mul_add] at *
      omega
    rw [this, Nat.mul_add_div hA, Nat.div_eq_of_lt ht, Nat.add_zero, Nat.mul_add_mod]
  · rw [q1]
    generalize w * (Y % 4294967296 ^ k) * 4294967296 ^ i = V at *
    generalize 4294967296 ^ (i + k) = A at *
    generalize cyM N w Y i k = c at *
    generalize (N % A + V) % A = t at *
    have : N % A + A * o + (V + A * (w * y)) = A * (c + (w * y + o)) + t := by simp only [Nat.mul_add]; omega
    rw [this, div_two _ _ _ _ ht]
theorem mul_nums {N w Y i k y o c S : Nat} (hw : w < 4294967296) (hS : S = N + w * Y * 4294967296 ^ i) (hy : y = Y / 4294967296 ^ k % 4294967296) (ho : o = N / 4294967296 ^ (i + k) % 4294967296) (hc : c = cyM N w Y i k) :
    ∃ (N1 N2 N3 : Int) (d c' : Nat), IntKind.u64.wrap ((w : Int) * y) = N1 ∧ IntKind.u64.wrap (N1 + o) = N2 ∧ IntKind.u64.wrap ((c : Int) + N2) = N3 ∧ N3 % 4294967296 = d ∧ N3 / 4294967296 = c' ∧ 0 ≤ N1 ∧ N1 ≤ 18446744073709551615 ∧ 0 ≤ N2 ∧ N2 ≤ 18446744073709551615 ∧ 0 ≤ N3 ∧ N3 ≤ 18446744073709551615 ∧ c' = cyM N w Y i (k + 1) ∧ S / 4294967296 ^ (i + k) % 4294967296 = d ∧ d < 4294967296 ∧ c' < 4294967296 := by
  have hyl : y < 4294967296 := by rw [hy]; exact dig_lt Y k
  have hol : o < 4294967296 := by rw [ho]; exact dig_lt N (i + k)
  have hcl : c < 4294967296 := by rw [hc]; exact cyM_lt hw
  obtain ⟨h1, h2⟩ := cyM_step hS hy ho
  have h3 := cyM_lt (N := N) (w := w) (Y := Y) (i := i) (k := k + 1) hw
  rw [← hc] at h1 h2
  have hp : w * y ≤ 4294967295 * 4294967295 := Nat.mul_le_mul (by omega) (by omega)
  generalize hP : w * y = p at *
  have hPi : (w : Int) * y = (p : Int) := by rw [← hP, Int.natCast_mul]
  rw [hPi]
  refine ⟨p, p + o, c + (p + o), (c + (p + o)) % 4294967296, (c + (p + o)) / 4294967296, IntWalk.u64_in _ (by omega), IntWalk.u64_in _ (by omega), IntWalk.u64_in _ (by omega), by omega, by omega, by omega, by omega, by omega, by omega, by omega, by omega, h2.symm, h1, by omega, by rw [← h2]; exact h3⟩
/-- The carry that is left is the last digit. -/
theorem cyM_last {X Y w i k N S : Nat} (hX : w = X / 4294967296 ^ i % 4294967296) (hN : N = X % 4294967296 ^ i * Y) (hS : S = N + w * Y * 4294967296 ^ i) (hY : Y < 4294967296 ^ k) :
    S / 4294967296 ^ (i + k) % 4294967296 = cyM N w Y i k ∧ S = X % 4294967296 ^ (i + 1) * Y ∧ N < 4294967296 ^ (i + k) ∧ S < 4294967296 ^ (i + k + 1) := by
  have hw : w < 4294967296 := by rw [hX]; exact dig_lt X i
  have h1 : X % 4294967296 ^ i + 1 ≤ 4294967296 ^ i := Nat.mod_lt X (pw_pos i)
  have h2 : N < 4294967296 ^ (i + k) := by
    rw [hN, Nat.pow_add]
    rcases Nat.eq_zero_or_pos (4294967296 ^ i) with h | h
    · have := pw_pos i; omega
    · exact Nat.lt_of_le_of_lt (Nat.mul_le_mul_right _ (show X % 4294967296 ^ i ≤ 4294967296 ^ i by omega)) (Nat.mul_lt_mul_of_pos_left hY h)
  have h3 : S = X % 4294967296 ^ (i + 1) * Y := by
    rw [mod_succ, ← hX, Nat.add_mul, ← hN, hS]
    congr 1
    ac_rfl
  have h4 : cyM N w Y i k = S / 4294967296 ^ (i + k) := by unfold cyM; rw [Nat.mod_eq_of_lt h2, Nat.mod_eq_of_lt hY, hS]
  have h5 := cyM_lt (N := N) (w := w) (Y := Y) (i := i) (k := k) hw
  refine ⟨?_, h3, h2, ?_⟩
  · rw [h4] at h5 ⊢
    exact Nat.mod_eq_of_lt h5
  · rw [h4, Nat.div_lt_iff_lt_mul (pw_pos _)] at h5
    rw [Nat.pow_succ, Nat.mul_comm]
    exact h5

set_option maxHeartbeats 4000000 in
theorem MulL_pad (s t : ByteArray) (y z a b : Nat) (w : World) (hs : Hid (s.data.toList = List.replicate y 0 ++ digs a)) (hs2 : s.size ≤ 1000000) (ht : Hid (t.data.toList = List.replicate z 0 ++ digs b)) (ht2 : t.size ≤ 1000000) (ha : (nS a).size ≤ 50000) (hb : (nS b).size ≤ 50000) (hl : ¬ (nS a).size + (nS b).size ≤ 8) :
    Calls Tryz.prog 41 #[.string s, .string t] w fun e w' => e = .returned (.string (nS (a * b))) ∧ Below w.heap.size w w' := by
  obtain ⟨ma, hma⟩ : ∃ m, m = ((nS a).size + 3) / 4 := ⟨_, rfl⟩
  obtain ⟨mb, hmb⟩ : ∃ m, m = ((nS b).size + 3) / 4 := ⟨_, rfl⟩
  have la : a < 4294967296 ^ ma := by rw [hma]; exact nS_low a
  have lb : b < 4294967296 ^ mb := by rw [hmb]; exact nS_low b
  have WA := fun w => words_any a w (by omega)
  have WB := fun w => words_any b w (by omega)
  rw [← hma] at WA
  rw [← hmb] at WB
  have ma1 : ma ≤ 12501 := by omega
  have mb1 : mb ≤ 12501 := by omega
  have LA := Lib.hid la
  have LB := Lib.hid lb
  clear hma hmb la lb
  go_enter Tryz.func41, Tryz.ntmps41
  go_wp2_with fail
  refine (trim_pad s y a _ hs hs2).mono ?_
  rintro e w' ⟨rfl, rfl⟩
  go_wp2_with fail
  refine (trim_pad t z b _ ht ht2).mono ?_
  rintro e w' ⟨rfl, rfl⟩
  clear hs ht
  go_wp2_with fail
  refine (WA _).mono ?_
  rintro e w1 ⟨ga, rfl, hga, hX, hb1⟩
  have X1 := Lib.hid hX
  have B1 := Lib.hid hb1
  clear hX hb1
  go_wp2_with fail
  refine (WB _).mono ?_
  rintro e w2 ⟨gb, rfl, hgb, hY, hb2⟩
  have X2 := Lib.hid (X1.out.below hb2 X1.out.lt)
  have Y2 := Lib.hid hY
  have B2 := Lib.hid (B1.out.trans (hb2.mono B1.out.size))
  clear hY hb2 X1 B1 hgb hga WA WB
  have hmk := run_make_row' (P := Tryz.prog) 132 134 (.int .u32 0) 4 Tryz.underlying132 info_u32 rfl .i64 .i64 (ma + mb) (by omega) (by omega)
  have hmc : (((ma + mb : Nat)) : Int) = (ma : Int) + (mb : Int) := by omega
  rw [hmc] at hmk
  have Z0 : Hid (Blk (w2.alloc (.cells (madeCells #[.int .u32 0] (ma + mb)) 134)) w2.heap.size 134 (wC (wDig (ma + mb) (a % 4294967296 ^ 0 * b)))) := by
    have e : wDig (ma + mb) (a % 4294967296 ^ 0 * b) = List.replicate (ma + mb) 0 := by
      rw [← aPart_zero (ma + mb) 0]
      unfold wDig aPart
      refine List.map_congr_left fun j _ => ?_
      rw [Nat.pow_zero, Nat.mod_one, Nat.zero_mul, Nat.zero_div, if_neg (by omega)]
    unfold Hid
    rw [e, ← made_wC]
    exact Blk.new _ _ _
  have P0 := Lib.hid (X2.out.alloc (.cells (madeCells #[.int .u32 0] (ma + mb)) 134))
  have Q0 := Lib.hid (Y2.out.alloc (.cells (madeCells #[.int .u32 0] (ma + mb)) 134))
  have B3 := Lib.hid (B2.out.alloc B2.out.size (.cells (madeCells #[.int .u32 0] (ma + mb)) 134))
  have hn1 : ga < w2.heap.size := X2.out.lt
  have hn2 : gb < w2.heap.size := Y2.out.lt
  have hn3 : w.heap.size ≤ w2.heap.size := B2.out.size
  clear hmc
  go_wp2_with fail
  clear hmk
  generalize hW3 : w2.alloc (.cells (madeCells #[.int .u32 0] (ma + mb)) 134) = w3 at Z0 P0 Q0 B3 ⊢
  clear hW3
  obtain ⟨gz, hgz⟩ : ∃ g, g = w2.heap.size := ⟨_, rfl⟩
  rw [← hgz] at hn1 hn2 hn3 Z0 ⊢
  clear hgz X2 Y2 B2
  go_loopw [41] (fun i wr => ∃ k : Nat, i = .int .i64 k ∧ k ≤ ma ∧ Hid (Blk wr gz 134 (wC (wDig (ma + mb) (a % 4294967296 ^ k * b)))) ∧ Hid (GrB w3 wr (some gz))) (fun i _ => ma - (intOf i).toNat)
  case atStart => exact ⟨0, rfl, by omega, Z0, GrB.refl w3 _⟩
  case round =>
    clear Z0
    obtain ⟨i, rfl, hi, ZZ, GG⟩ := hrel
    have PX := Lib.hid (P0.out.grown GG.out (by simp; omega))
    by_cases hlt : i < ma
    · obtain ⟨x, hx⟩ : ∃ x, x = a / 4294967296 ^ i % 4294967296 := ⟨_, rfl⟩
      have hxl : x < 4294967296 := by rw [hx]; exact dig_lt _ _
      obtain ⟨N, hN⟩ : ∃ N, N = a % 4294967296 ^ i * b := ⟨_, rfl⟩
      obtain ⟨S, hS⟩ : ∃ S, S = N + x * b * 4294967296 ^ i := ⟨_, rfl⟩
      have cX : wr.cell? ⟨ga, i, none⟩ = some (.int .u32 x) := by rw [PX.out.cell, hx]; exact wC_at (wDig_at hlt)
      rw [← hN] at ZZ
      have ZM : Hid (Blk wr gz 134 (wC (mPart (ma + mb) S N (i + 0)))) := by
        unfold Hid
        rw [mPart_same (fun j hj => ?_)]
        · exact ZZ.out
        · have hp : 4294967296 ^ i = 4294967296 ^ j * (4294967296 * 4294967296 ^ (i - j - 1)) := by
            conv => lhs; rw [show i = j + (1 + (i - j - 1)) by omega, Nat.pow_add, Nat.pow_add, Nat.pow_one]
          rw [hS, hp, show x * b * (4294967296 ^ j * (4294967296 * 4294967296 ^ (i - j - 1))) = 4294967296 ^ j * (4294967296 * (x * b * 4294967296 ^ (i - j - 1))) by ac_rfl, Nat.add_comm, Nat.mul_add_div (pw_pos j), Nat.mul_add_mod]
      have HX := Lib.hid hx
      have HN := Lib.hid hN
      have HS := Lib.hid hS
      clear hx hN hS ZZ
      go_wp2_with fail
      obtain ⟨wo, hwo⟩ : ∃ wo : World, wo = wr := ⟨_, rfl⟩
      subst hwo
      clear cX PX
      go_loopw [10, 48] (fun c k wr => ∃ j : Nat, k = .int .i64 j ∧ j ≤ mb ∧ c = .int .u64 (cyM N x b i j) ∧ Hid (Blk wr gz 134 (wC (mPart (ma + mb) S N (i + j)))) ∧ Hid (GrB w3 wr (some gz))) (fun _ k _ => mb - (intOf k).toNat)
      case atStart => exact ⟨0, rfl, by omega, by rw [cyM_zero]; rfl, ZM, GG⟩
      case round =>
        clear ZM GG
        obtain ⟨j, rfl, hj, rfl, ZZ, GG⟩ := hrel
        obtain ⟨c, hc⟩ : ∃ c, c = cyM N x b i j := ⟨_, rfl⟩
        have hcl : c < 4294967296 := by rw [hc]; exact cyM_lt hxl
        have QY := Lib.hid (Q0.out.grown GG.out (by simp; omega))
        by_cases hjl : j < mb
        · obtain ⟨y, hy⟩ : ∃ y, y = b / 4294967296 ^ j % 4294967296 := ⟨_, rfl⟩
          obtain ⟨o, ho⟩ : ∃ o, o = N / 4294967296 ^ (i + j) % 4294967296 := ⟨_, rfl⟩
          obtain ⟨N1, N2, N3, d, c', h1, h2, h3, h4, h5, n1, n2, n3, n4, n5, n6, h6, h7, h8, h9⟩ := mul_nums hxl HS.out hy ho hc
          have hyl : y < 4294967296 := by rw [hy]; exact dig_lt _ _
          have hol : o < 4294967296 := by rw [ho]; exact dig_lt _ _
          have cY : wr.cell? ⟨gb, j, none⟩ = some (.int .u32 y) := by rw [QY.out.cell, hy]; exact wC_at (wDig_at hjl)
          obtain ⟨p, hp⟩ : ∃ p, p = i + j := ⟨_, rfl⟩
          have hpi : (i : Int) + j = (p : Int) := by omega
          have hpm : p < ma + mb := by omega
          have hpm2 : (p : Int) < (ma : Int) + mb := by omega
          rw [← hp] at ZZ ho h7
          have cZ : wr.cell? ⟨gz, p, none⟩ = some (.int .u32 o) := by rw [ZZ.out.cell, ho]; exact wC_at (by rw [mPart_at hpm, if_neg (by omega)])
          have fZ := ZZ.out.frozen p
          have Z2 : Hid (Blk (wr.setCell ⟨gz, p, none⟩ (.int .u32 d)) gz 134 (wC (mPart (ma + mb) S N (i + (j + 1))))) := by
            unfold Hid
            rw [show i + (j + 1) = p + 1 by omega, mPart_step hpm h7, ← wC_set]
            exact ZZ.out.set_ p _
          have G2 := Lib.hid (grown_set GG.out p (.int .u32 d))
          have H6 : Hid ((.int .u64 (c' : Int) : Value) = .int .u64 (cyM N x b i (j + 1))) := by unfold Hid; rw [h6]
          rw [← hc]
          clear hy ho hc hp h6 h7
          go_wp2_with fail
          go_roundw
          case rel => exact ⟨j + 1, by go_num, by omega, H6.out, Z2, G2⟩
          case measure => simp [intOf]; omega
        · have hjm : j = mb := by omega
          subst hjm
          obtain ⟨e1, e2, e3, e4⟩ := cyM_last HX.out HN.out HS.out LB.out
          rw [← hc] at e1 ⊢
          obtain ⟨p, hp⟩ : ∃ p, p = i + j := ⟨_, rfl⟩
          have hpi : (i : Int) + j = (p : Int) := by omega
          have hpm : p < ma + j := by omega
          have hpm2 : (p : Int) < (ma : Int) + j := by omega
          rw [← hp] at ZZ e1 e3 e4
          have fZ := ZZ.out.frozen p
          obtain ⟨u, cZ⟩ : ∃ u, wr.cell? ⟨gz, p, none⟩ = some u := ⟨_, by rw [ZZ.out.cell]; exact Array.getElem?_eq_getElem (by simp [wC, mPart_len]; omega)⟩
          have Z2 : Hid (Blk (wr.setCell ⟨gz, p, none⟩ (.int .u32 (c : Int))) gz 134 (wC (wDig (ma + j) (a % 4294967296 ^ (i + 1) * b)))) := by
            unfold Hid
            have hz := ZZ.out.set_ p (.int .u32 (c : Int))
            rw [wC_set, ← mPart_step hpm e1, mPart_full (fun q hq => ?_), e2] at hz
            · exact hz
            · rw [dig_high e4 hq, dig_high e3 (by omega)]
          have G2 := Lib.hid (grown_set GG.out p (.int .u32 (c : Int)))
          clear hc hp e1 e2 e3 e4
          go_wp2_with fail
          go_roundw
          case rel => exact ⟨i + 1, by go_num, by omega, Z2, G2⟩
          case measure => simp [intOf]; omega
    · have him : i = ma := by omega
      subst him
      have ZF : Hid (Blk wr gz 134 (wC (wDig (i + mb) (a * b)))) := by
        unfold Hid
        have := ZZ.out
        rw [Nat.mod_eq_of_lt LA.out] at this
        exact this
      have HS : Hid (a * b < 256 ^ (4 * (i + mb))) := by
        unfold Hid
        rw [pow_big, Nat.pow_add]
        rcases Nat.eq_zero_or_pos b with h | h
        · subst h; exact Nat.mul_pos (pw_pos i) (pw_pos mb)
        · exact Nat.lt_of_lt_of_le (Nat.mul_lt_mul_of_pos_right LA.out h) (Nat.mul_le_mul_left _ (Nat.le_of_lt LB.out))
      have B4 := Lib.hid (B3.out.grown GG.out B3.out.size (fun k hk => by cases hk; exact hn3))
      clear ZZ
      go_wp2_with fail
      refine (text_any gz _ (i + mb) (a * b) _ (by omega) HS.out ZF.out).mono ?_
      rintro e w4 ⟨rfl, hb4⟩
      have B5 := Lib.hid (B4.out.trans (hb4.mono B4.out.size))
      clear hb4
      go_wp2_with fail
      go_ret
      exact ⟨rfl, B5.out⟩

set_option maxHeartbeats 1000000 in
theorem MulS_pad (s t : ByteArray) (y z a b : Nat) (w : World) (hs : Hid (s.data.toList = List.replicate y 0 ++ digs a)) (hs2 : s.size ≤ 1000000) (ht : Hid (t.data.toList = List.replicate z 0 ++ digs b)) (ht2 : t.size ≤ 1000000) (hl : (nS a).size + (nS b).size ≤ 8) :
    Calls Tryz.prog 41 #[.string s, .string t] w fun e w' => e = .returned (.string (nS (a * b))) ∧ Below w.heap.size w w' := by
  have ha : a < 256 ^ (nS a).size := digs_low (by rw [nS_size]; exact Nat.le_refl _)
  have hb : b < 256 ^ (nS b).size := digs_low (by rw [nS_size]; exact Nat.le_refl _)
  have hm : a * b < 18446744073709551616 := by
    have h1 : 256 ^ (nS a).size * 256 ^ (nS b).size ≤ 256 ^ 8 := by rw [← Nat.pow_add]; exact Nat.pow_le_pow_right (by decide) hl
    rcases Nat.eq_zero_or_pos b with h | h
    · subst h; simp
    · exact Nat.lt_of_lt_of_le (Nat.mul_lt_mul_of_pos_right ha h) (Nat.le_trans (Nat.mul_le_mul_left _ (Nat.le_of_lt hb)) h1)
  have a8 : a < 18446744073709551616 := Nat.lt_of_lt_of_le ha (show 256 ^ (nS a).size ≤ 256 ^ 8 from Nat.pow_le_pow_right (by decide) (by omega))
  have b8 : b < 18446744073709551616 := Nat.lt_of_lt_of_le hb (show 256 ^ (nS b).size ≤ 256 ^ 8 from Nat.pow_le_pow_right (by decide) (by omega))
  clear ha hb
  have hw : IntKind.u64.wrap ((a : Int) * b) = ((a * b : Nat) : Int) := by
    rw [← Int.natCast_mul, IntWalk.u64_in _ (by omega)]
  have HM := Lib.hid hm
  clear hm
  go_enter Tryz.func41, Tryz.ntmps41
  go_wp2_with fail
  refine (trim_pad s y a _ hs hs2).mono ?_
  rintro e w' ⟨rfl, rfl⟩
  go_wp2_with fail
  refine (trim_pad t z b _ ht ht2).mono ?_
  rintro e w' ⟨rfl, rfl⟩
  clear hs ht
  go_wp2_with fail
  refine (short_nS a _ a8).mono ?_
  rintro e w' ⟨rfl, rfl⟩
  go_wp2_with fail
  refine (short_nS b _ b8).mono ?_
  rintro e w' ⟨rfl, rfl⟩
  go_wp2_with fail
  refine (fromShort_any (a * b) _ HM.out).mono ?_
  rintro e w' ⟨rfl, hb2⟩
  have B2 := Lib.hid hb2
  clear hb2
  go_wp2_with fail
  go_ret
  exact ⟨rfl, B2.out⟩
theorem Mul_pad (s t : ByteArray) (y z a b : Nat) (w : World) (hs : Hid (s.data.toList = List.replicate y 0 ++ digs a)) (hs2 : s.size ≤ 1000000) (ht : Hid (t.data.toList = List.replicate z 0 ++ digs b)) (ht2 : t.size ≤ 1000000) (ha : (nS a).size ≤ 50000) (hb : (nS b).size ≤ 50000) :
    Calls Tryz.prog 41 #[.string s, .string t] w fun e w' => e = .returned (.string (nS (a * b))) ∧ Below w.heap.size w w' := by
  by_cases hl : (nS a).size + (nS b).size ≤ 8
  · exact MulS_pad s t y z a b w hs hs2 ht ht2 hl
  · exact MulL_pad s t y z a b w hs hs2 ht ht2 ha hb hl
theorem MulG (a b : Nat) (w : World) (ha : (nS a).size ≤ 50000) (hb : (nS b).size ≤ 50000) :
    Calls Tryz.prog 41 #[.string (nS a), .string (nS b)] w fun e w' => e = .returned (.string (nS (a * b))) ∧ Below w.heap.size w w' :=
  Mul_pad (nS a) (nS b) 0 0 a b w (by simp [Hid, nS_list]) (by omega) (by simp [Hid, nS_list]) (by omega) ha hb
end Go.Proofs.YtmfejdikfpckdaaGreatDoor

namespace Go.Proofs.YtmfejdikfpckdaaGreatDoor
open Go.RowKit
set_option linter.unusedVariables false
set_option maxRecDepth 100000

set_option maxHeartbeats 2000000 in
theorem text_pre (ga c m M n : Nat) (w : World) (hm : m ≤ 30000) (hM : m ≤ M) (hn : n < 256 ^ (4 * m)) (hX : Blk w ga 134 (wC (wDig M n))) :
    Calls Tryz.prog 76 #[.slice (some ⟨ga, 0, none⟩) m c] w fun e w' => e = .returned (.string (nS n)) ∧ Below w.heap.size w w' := by
  have hmk := run_make_row' (P := Tryz.prog) 149 5 (.int .u8 0) 1 Tryz.underlying149 info_u8 rfl .i64 .i64 (4 * m) (by omega) (by omega)
  have hm4 : (((4 * m : Nat) : Int)) = 4 * (m : Int) := by omega
  rw [hm4] at hmk
  have HN := Lib.hid hn
  clear hn hm4
  have X0 : Hid (Blk (w.alloc (.cells (madeCells #[.int .u8 0] (4 * m)) 5)) w.heap.size 5 (bC (tPart m n 0))) := by
    have e : madeCells #[.int .u8 0] (4 * m) = bC (tPart m n 0) := by
      rw [tPart_zero]
      apply Array.ext
      · simp [size_madeCells, bC]
      · intro i h1 h2
        simp [madeCells, Nat.mod_one, bC]
    unfold Hid
    rw [← e]
    exact Blk.new _ _ _
  have B0 := Lib.hid ((Below.refl w.heap.size w).alloc (Nat.le_refl _) (.cells (madeCells #[.int .u8 0] (4 * m)) 5))
  have Y := Lib.hid hX
  clear hX
  go_enter Tryz.func76, Tryz.ntmps76
  go_wp2_with fail
  clear hmk
  go_loopw [13] (fun i wr => ∃ k : Nat, i = .int .i64 k ∧ k ≤ m ∧ Hid (Blk wr w.heap.size 5 (bC (tPart m n k))) ∧ Hid (Below w.heap.size w wr)) (fun i _ => m - (intOf i).toNat)
  case atStart => exact ⟨0, rfl, by omega, X0, B0⟩
  case round =>
    clear X0 B0
    obtain ⟨k, rfl, hk, X, B⟩ := hrel
    by_cases hlt : k < m
    · obtain ⟨p, hp, hst⟩ := tPart_step (n := n) hlt
      have cw : wr.cell? ⟨ga, k, none⟩ = some (.int .u32 ((n / 4294967296 ^ k % 4294967296 : Nat) : Int)) := by
        rw [(Y.out.below B.out Y.out.lt).cell]
        exact wC_at (wDig_at (by omega))
      obtain ⟨x, hx⟩ : ∃ x, x = n / 4294967296 ^ k % 4294967296 := ⟨_, rfl⟩
      rw [← hx] at cw hst
      have hxl : x < 4294967296 := by rw [hx]; exact Nat.mod_lt _ (by decide)
      have e1 : 4 * ((m : Int) - 1 - k) = (p : Int) := by omega
      have hp4 : p + 3 < 4 * m := by omega
      have hp5 : (p : Int) + 3 < 4 * m := by omega
      have fz0 := X.out.frozen p
      have fz1 := X.out.frozen (p + 1)
      have fz2 := X.out.frozen (p + 2)
      have fz3 := X.out.frozen (p + 3)
      have at_ : ∀ j, j < 4 * m → ∃ u, wr.cell? ⟨w.heap.size, j, none⟩ = some u := fun j hj => by
        rw [X.out.cell]
        exact ⟨_, Array.getElem?_eq_getElem (by simp [bC, tPart_len]; exact hj)⟩
      obtain ⟨u0, cu0⟩ := at_ p (by omega)
      obtain ⟨u1, cu1⟩ := at_ (p + 1) (by omega)
      obtain ⟨u2, cu2⟩ := at_ (p + 2) (by omega)
      obtain ⟨u3, cu3⟩ := at_ (p + 3) (by omega)
      have HST := Lib.hid hst
      clear hx hst hp at_
      have X2 : Hid (Blk ((((wr.setCell ⟨w.heap.size, p, none⟩ (.int .u8 ((x : Int) / 16777216))).setCell ⟨w.heap.size, p + 1, none⟩ (.int .u8 ((x : Int) / 65536 % 256))).setCell ⟨w.heap.size, p + 2, none⟩ (.int .u8 ((x : Int) / 256 % 256))).setCell ⟨w.heap.size, p + 3, none⟩ (.int .u8 ((x : Int) % 256))) w.heap.size 5 (bC (tPart m n (k + 1)))) := by
        unfold Hid
        rw [HST.out, ← bC_set, ← bC_set, ← bC_set, ← bC_set]
        have v0 : (x : Int) / 16777216 = ((x / 16777216 % 256 : Nat) : Int) := by omega
        have v1 : (x : Int) / 65536 % 256 = ((x / 65536 % 256 : Nat) : Int) := by omega
        have v2 : (x : Int) / 256 % 256 = ((x / 256 % 256 : Nat) : Int) := by omega
        have v3 : (x : Int) % 256 = ((x % 256 : Nat) : Int) := by omega
        rw [v0, v1, v2, v3]
        exact (((X.out.set_ p _).set_ (p + 1) _).set_ (p + 2) _).set_ (p + 3) _
      have B2 : Hid (Below w.heap.size w ((((wr.setCell ⟨w.heap.size, p, none⟩ (.int .u8 ((x : Int) / 16777216))).setCell ⟨w.heap.size, p + 1, none⟩ (.int .u8 ((x : Int) / 65536 % 256))).setCell ⟨w.heap.size, p + 2, none⟩ (.int .u8 ((x : Int) / 256 % 256))).setCell ⟨w.heap.size, p + 3, none⟩ (.int .u8 ((x : Int) % 256)))) :=
        (((B.out.setCell (p := ⟨w.heap.size, p, none⟩) (Nat.le_refl _) _).setCell (p := ⟨w.heap.size, p + 1, none⟩) (Nat.le_refl _) _).setCell (p := ⟨w.heap.size, p + 2, none⟩) (Nat.le_refl _) _).setCell (p := ⟨w.heap.size, p + 3, none⟩) (Nat.le_refl _) _
      go_wp2_with fail
      go_roundw
      case rel => exact ⟨k + 1, by go_num, by omega, X2, B2⟩
      case measure => simp [intOf]; omega
    · have hkm : k = m := by omega
      subst hkm
      obtain ⟨z, hz⟩ := bePad_eq (4 * k) n HN.out
      have hl : (bePad (4 * k) n).length = 4 * k := by simp [bePad]
      have cv := run_convert_bytes_back (P := Tryz.prog) wr 149 9 5 ⟨w.heap.size, 0, none⟩ (4 * k) (bePad (4 * k) n) Tryz.underlying149 Tryz.underlying5 Tryz.underlying9 (fun j hj => by
        rw [Addr.add_lit, Nat.zero_add, X.out.cell, tPart_all]
        simp only [bC, List.map_map, List.getElem?_toArray, List.getElem?_map, List.getElem?_eq_getElem hj, Option.map_some]
        rfl)
      rw [hl] at cv
      have HZ : Hid ((⟨(bePad (4 * k) n).toArray⟩ : ByteArray).data.toList = List.replicate z 0 ++ digs n) := hz
      have hsz : (⟨(bePad (4 * k) n).toArray⟩ : ByteArray).size ≤ 1000000 := by rw [ba_size]; simp only [hl]; omega
      clear hz hl
      go_wp2_with fail
      refine (trim_pad _ z n _ HZ hsz).mono ?_
      rintro e w2 ⟨rfl, rfl⟩
      go_wp2
      go_ret
      exact ⟨rfl, B.out⟩


theorem grown_drew {w wr : World} {r : Option Nat} (h : GrB w wr r) : GrB w wr.drew r := h.trans ⟨rfl, rfl, rfl, Nat.le_refl _, Nat.le_succ _, fun _ _ _ => rfl⟩
theorem mPart_back {M S N p d : Nat} (h : p < M) (hd : N / 4294967296 ^ p % 4294967296 = d) : mPart M S N p = (mPart M S N (p + 1)).set p d := by
  apply List.ext_getElem?
  intro j
  rw [List.getElem?_set]
  by_cases hj : j < M
  · rw [mPart_at hj, mPart_at hj]
    by_cases h1 : p = j
    · subst h1; rw [if_pos rfl, if_neg (by omega), if_pos (by rw [mPart_len]; exact h), hd]
    · rw [if_neg h1]
      by_cases h2 : j < p
      · rw [if_pos h2, if_pos (by omega)]
      · rw [if_neg h2, if_neg (by omega)]
  · rw [List.getElem?_eq_none (by simp [mPart]; omega), if_neg (by omega), List.getElem?_eq_none (by simp [mPart]; omega)]
theorem mPart_none (M S N : Nat) : mPart M S N 0 = wDig M N := mPart_same (fun j hj => absurd hj (by omega))
theorem mPart_tot (M S N : Nat) : mPart M S N M = wDig M S := by
  unfold mPart wDig
  exact List.map_congr_left fun j hj => by rw [List.mem_range] at hj; rw [if_pos hj]
theorem quo_step {X b k r x : Nat} (hb : 0 < b) (hbl : b < 4294967296) (hr : r = X / 4294967296 ^ (k + 1) % b) (hx : x = X / 4294967296 ^ k % 4294967296) :
    (r * 4294967296 + x) / b < 4294967296 ∧ X / b / 4294967296 ^ k % 4294967296 = (r * 4294967296 + x) / b ∧ X / 4294967296 ^ k % b = (r * 4294967296 + x) % b ∧ r < b := by
  have hrl : r < b := by rw [hr]; exact Nat.mod_lt _ hb
  have hxl : x < 4294967296 := by rw [hx]; exact dig_lt _ _
  have e1 : X / 4294967296 ^ k = 4294967296 * (X / 4294967296 ^ (k + 1)) + x := by
    have := Nat.div_add_mod (X / 4294967296 ^ k) 4294967296
    rw [Nat.pow_succ, ← Nat.div_div_eq_div_mul, hx]
    omega
  have e2 := Nat.div_add_mod (X / 4294967296 ^ (k + 1)) b
  rw [← hr] at e2
  obtain ⟨u, hu⟩ : ∃ u, u = X / 4294967296 ^ (k + 1) / b := ⟨_, rfl⟩
  rw [← hu] at e2
  have e3 : X / 4294967296 ^ k = b * (4294967296 * u) + (r * 4294967296 + x) := by
    rw [e1, ← e2, Nat.mul_add, show 4294967296 * (b * u) = b * (4294967296 * u) by ac_rfl]
    omega
  have hq : (r * 4294967296 + x) / b < 4294967296 := by
    rw [Nat.div_lt_iff_lt_mul hb]
    have : (r + 1) * 4294967296 ≤ b * 4294967296 := Nat.mul_le_mul_right _ hrl
    rw [Nat.mul_comm 4294967296 b]
    omega
  refine ⟨hq, ?_, ?_, hrl⟩
  · rw [Nat.div_div_eq_div_mul, Nat.mul_comm b, ← Nat.div_div_eq_div_mul, e3, Nat.mul_add_div hb, Nat.mul_add_mod]
    exact Nat.mod_eq_of_lt hq
  · rw [e3, Nat.mul_add_mod]
theorem shl_or (r x : Nat) (hr : r < 4294967296) (hx : x < 4294967296) : bits .or .u64 (((r * 4294967296 : Nat)) : Int) (x : Int) = ((r * 4294967296 + x : Nat) : Int) := by
  rw [u64_or_nat (r * 4294967296) x (by omega) (by omega)]
  have := Nat.shiftLeft_add_eq_or_of_lt (b := x) (i := 32) hx r
  rw [Nat.shiftLeft_eq] at this
  rw [← this]
theorem div_nums {X b k r x : Nat} (hb : 0 < b) (hbl : b < 4294967296) (hr : r = X / 4294967296 ^ (k + 1) % b) (hx : x = X / 4294967296 ^ k % 4294967296) :
    ∃ (T : Int) (d r' : Nat), bits .or .u64 ((r : Int) * 4294967296) (x : Int) = T ∧ IntKind.u64.wrap (T / b) = d ∧ T / b = d ∧ T % b = r' ∧ IntKind.u64.wrap (T % b) = r' ∧ 0 ≤ T ∧ T ≤ 18446744073709551615 ∧ d < 4294967296 ∧ X / b / 4294967296 ^ k % 4294967296 = d ∧ r' = X / 4294967296 ^ k % b ∧ r' < b := by
  obtain ⟨h1, h2, h3, h4⟩ := quo_step hb hbl hr hx
  have hxl : x < 4294967296 := by rw [hx]; exact dig_lt _ _
  have h5 : (r * 4294967296 + x) % b < b := Nat.mod_lt _ hb
  have hT := shl_or r x (by omega) hxl
  rw [show (((r * 4294967296 : Nat)) : Int) = (r : Int) * 4294967296 by omega] at hT
  have hd : ((r * 4294967296 + x : Nat) : Int) / b = (((r * 4294967296 + x) / b : Nat) : Int) := (Int.natCast_ediv _ _).symm
  have hm : ((r * 4294967296 + x : Nat) : Int) % b = (((r * 4294967296 + x) % b : Nat) : Int) := (Int.natCast_emod _ _).symm
  exact ⟨_, _, _, hT, by rw [hd]; exact IntWalk.u64_in _ (by omega), hd, hm, by rw [hm]; exact IntWalk.u64_in _ (by omega), by omega, by omega, h1, h2, h3.symm, h5⟩

set_option maxHeartbeats 4000000 in
theorem DivW_any (a b : Nat) (w : World) (ha : (nS a).size ≤ 100000) (h8 : ¬ (nS a).size ≤ 8) (hb0 : 0 < b) (hbl : b < 4294967296) :
    Calls Tryz.prog 71 #[.string (nS a), .string (nS b)] w fun e w' => e = .returned (.tuple #[.string (nS (a / b)), .string (nS (a % b)), .int .i64 0]) ∧ Below w.heap.size w w' := by
  have sb : (nS b).size ≤ 4 := by rw [nS_size]; exact digs_len (k := 4) hbl
  have sb1 : 0 < (nS b).size := by
    rcases Nat.eq_zero_or_pos (nS b).size with h | h
    · have h2 := nS_empty.1 h
      omega
    · exact h
  obtain ⟨m, hm⟩ : ∃ m, m = ((nS a).size + 3) / 4 := ⟨_, rfl⟩
  have la : a < 4294967296 ^ m := by rw [hm]; exact nS_low a
  have WA := fun w => words_any a w ha
  have WB := fun w => words_any b w (by omega)
  rw [← hm] at WA
  have hmb : ((nS b).size + 3) / 4 = 1 := by omega
  rw [hmb] at WB
  have m1 : m ≤ 25000 := by omega
  have m0 : 2 ≤ m := by omega
  have hab : b ≤ a := by
    rcases Nat.lt_or_ge a b with h | h
    · have := digs_len_mono (Nat.le_of_lt h)
      rw [nS_size] at h8 sb
      omega
    · exact h
  obtain ⟨r, hr⟩ : ∃ r, cmpN a b = r := ⟨_, rfl⟩
  have hr0 : 0 ≤ r := by rw [← hr, cmpN]; split; omega; split <;> omega
  have HR := Lib.hid hr
  have HA := Lib.hid ha
  have LA := Lib.hid la
  have HNE := Lib.hid (nS_ne hb0)
  have hne := HNE.out
  have hbz : ((b : Int) == 0) = false := by rw [beq_eq_false_iff_ne]; omega
  clear hr hm la hmb ha
  go_enter Tryz.func71, Tryz.ntmps71
  go_wp2_with fail
  refine (trim_nS a _ HA.out).mono ?_
  rintro e w' ⟨rfl, rfl⟩
  go_wp2_with fail
  refine (trim_nS b _ (by omega)).mono ?_
  rintro e w' ⟨rfl, rfl⟩
  go_wp2_with fail
  refine (Cmp_any a b r _ HA.out (by omega) HR).mono ?_
  rintro e w' ⟨rfl, rfl⟩
  go_wp2_with fail
  refine (WA _).mono ?_
  rintro e w1 ⟨ga, rfl, hga, hX, hb1⟩
  have X1 := Lib.hid hX
  have B1 := Lib.hid hb1
  clear hX hb1
  go_wp2_with fail
  refine (WB _).mono ?_
  rintro e w2 ⟨gb, rfl, hgb, hY, hb2⟩
  have X2 : Hid (Blk w2 ga 134 (wC (mPart m a (a / b) m))) := by unfold Hid; rw [mPart_tot]; exact X1.out.below hb2 X1.out.lt
  have Y2 := Lib.hid hY
  have B2 := Lib.hid (B1.out.trans (hb2.mono B1.out.size))
  have hgn : ga < gb := Nat.lt_of_lt_of_le X1.out.lt hgb
  have hgb2 : w.heap.size ≤ gb := Nat.le_trans hga (by omega)
  clear hY hb2 X1 B1 WA WB hgb
  go_wp2_with fail
  obtain ⟨i0, hi0⟩ : ∃ i0 : Int, i0 = (m : Int) - 1 := ⟨_, rfl⟩
  rw [← hi0]
  go_loopw [9, 10] (fun c i wr => ∃ k : Nat, i = .int .i64 ((k : Int) - 1) ∧ k ≤ m ∧ c = .int .u64 (a / 4294967296 ^ k % b : Nat) ∧ Hid (Blk wr ga 134 (wC (mPart m a (a / b) k))) ∧ Hid (GrB w2 wr (some ga))) (fun _ i _ => (intOf i + 1).toNat)
  case atStart => exact ⟨m, by rw [hi0], by omega, by rw [Nat.div_eq_of_lt LA.out, Nat.zero_mod]; rfl, X2, GrB.refl w2 _⟩
  case round =>
    clear X2 hi0
    obtain ⟨k, rfl, hk, rfl, ZZ, GG⟩ := hrel
    have PY := Lib.hid (Y2.out.grown GG.out (by simp; omega))
    cases k with
    | succ j =>
      obtain ⟨x, hx⟩ : ∃ x, x = a / 4294967296 ^ j % 4294967296 := ⟨_, rfl⟩
      obtain ⟨r, hr⟩ : ∃ r, r = a / 4294967296 ^ (j + 1) % b := ⟨_, rfl⟩
      have hrb : r < b := by rw [hr]; exact Nat.mod_lt _ hb0
      have hxl : x < 4294967296 := by rw [hx]; exact dig_lt _ _
      obtain ⟨T, d, r', h1, h2, h3, h4, h5, n1, n2, n3, h6, h7, h8'⟩ := div_nums hb0 hbl hr hx
      have cX : wr.cell? ⟨ga, j, none⟩ = some (.int .u32 x) := by rw [ZZ.out.cell, hx]; exact wC_at (by rw [mPart_at (by omega), if_pos (by omega)])
      have fX := ZZ.out.frozen j
      have cB : wr.cell? ⟨gb, 0, none⟩ = some (.int .u32 b) := by
        rw [PY.out.cell]
        have := wDig_at (m := 1) (n := b) (j := 0) (by omega)
        rw [Nat.pow_zero, Nat.div_one, Nat.mod_eq_of_lt hbl] at this
        exact wC_at this
      have Z2 : Hid (Blk (wr.setCell ⟨ga, j, none⟩ (.int .u32 d)) ga 134 (wC (mPart m a (a / b) j))) := by
        unfold Hid
        rw [mPart_back (by omega) h6, ← wC_set]
        exact ZZ.out.set_ j _
      have G2 := Lib.hid (grown_set GG.out j (.int .u32 d))
      have H7 : Hid ((.int .u64 (r' : Int) : Value) = .int .u64 (a / 4294967296 ^ j % b : Nat)) := by unfold Hid; rw [h7]
      rw [← hr]
      have hj1 : ((j + 1 : Nat) : Int) - 1 = (j : Int) := by omega
      rw [hj1]
      clear hx hr h6 h7 hj1
      go_wp2_with fail
      go_region
      go_wp2_with fail
      go_roundw
      case rel => exact ⟨j, by go_num, by omega, by rw [h4]; exact H7.out, Z2, grown_drew G2.out⟩
      case measure => simp [intOf]
    | zero =>
      have ZF : Hid (Blk wr ga 134 (wC (wDig m (a / b)))) := by unfold Hid; rw [← mPart_none m a]; exact ZZ.out
      obtain ⟨r, hr⟩ : ∃ r, r = a % b := ⟨_, rfl⟩
      have hrb : r < b := by rw [hr]; exact Nat.mod_lt _ hb0
      have B3 := Lib.hid (B2.out.grown GG.out B2.out.size (fun k hk => by cases hk; exact hga))
      have HQ : Hid (a / b < 256 ^ (4 * m)) := by unfold Hid; rw [pow_big]; exact Nat.lt_of_le_of_lt (Nat.div_le_self a b) LA.out
      rw [Nat.pow_zero, Nat.div_one, ← hr]
      have HR2 := Lib.hid hr
      clear hr ZZ
      go_wp2_with fail
      refine (text_pre ga _ m m (a / b) _ (by omega) (Nat.le_refl _) HQ.out ZF.out).mono ?_
      rintro e w4 ⟨rfl, hb4⟩
      have B4 := Lib.hid (B3.out.trans (hb4.mono B3.out.size))
      clear hb4 B3
      go_wp2_with fail
      refine (fromShort_any r _ (by omega)).mono ?_
      rintro e w5 ⟨rfl, hb5⟩
      have B5 := Lib.hid (B4.out.trans (hb5.mono B4.out.size))
      clear hb5
      go_wp2_with fail
      go_ret3
      exact ⟨by rw [← HR2.out]; rfl, B5.out⟩
end Go.Proofs.YtmfejdikfpckdaaGreatDoor
