/- The walk of gantmake.Of. · Natural numbers as strings of bytes: plain lemmas; the walks of nat.trim, short, fromShort. -/
import Derived.Test.YtmfejdikfpckdaaGreatDoorFc10
import Derived.Deep.QuietTactic
import Derived.BigQuiet
import Derived.Laws.BitsAllLaws
import Derived.IntWalk
import Derived.OneCell
import Derived.Laws.BytesArg
namespace Go.Proofs.YtmfejdikfpckdaaGreatDoor
open Go.RowKit
set_option linter.unusedVariables false
set_option maxRecDepth 100000

/-- The rational number num / den, as three cells. -/
def ratOf (num : Int) (den : Nat) : Array Value := #[.bool (decide (num < 0)), .string ⟨(digs (num.natAbs / Nat.gcd num.natAbs den)).toArray⟩, .string ⟨(digs (den / Nat.gcd num.natAbs den)).toArray⟩]
theorem div_neg_iff (num : Int) (g : Nat) (hd : (g : Int) ∣ num) (hg : 0 < g) : num / (g : Int) < 0 ↔ num < 0 := by
  obtain ⟨k, rfl⟩ := hd
  rw [Int.mul_ediv_cancel_left _ (by omega)]
  constructor
  · intro h; exact Int.mul_neg_of_pos_of_neg (by omega) h
  · intro h
    rcases Int.lt_or_le k 0 with h1 | h1
    · exact h1
    · have := Int.mul_nonneg (show (0 : Int) ≤ g by omega) h1; omega
theorem natAbs_div' (num : Int) (g : Nat) (hd : (g : Int) ∣ num) (hg : 0 < g) : (num / (g : Int)).natAbs = num.natAbs / g := by
  rw [Int.natAbs_ediv_of_dvd hd, Int.natAbs_natCast]

theorem digits_int (x : Int) (n : Nat) (w : World) (hx : Hid (x = (n : Int))) (hn : n ≤ 4611686018427387904) :
    Calls Tryz.prog 79 #[.int .i64 x] w fun e w' => e = .returned (.string ⟨(digs n).toArray⟩) ∧ Below w.heap.size w w' := by
  rw [hx.out]
  exact digits_any n w hn
set_option maxHeartbeats 4000000 in
theorem of_any (num : Int) (den : Nat) (w : World) (h1 : -4611686018427387904 ≤ num) (h2 : num ≤ 4611686018427387904) (h3 : 0 < den) (h4 : den ≤ 4611686018427387904) :
    Calls Tryz.prog 52 #[.int .i64 num, .int .i64 den] w fun e w' => e = .returned (.agg (ratOf num den)) ∧ Below w.heap.size w w' := by
  obtain ⟨A, hA⟩ : ∃ A : Nat, A = num.natAbs := ⟨_, rfl⟩
  obtain ⟨G, hG⟩ : ∃ G : Nat, G = Nat.gcd num.natAbs den := ⟨_, rfl⟩
  have hAb : A ≤ 4611686018427387904 := by omega
  have hG0 : 0 < G := by rw [hG]; exact Nat.gcd_pos_of_pos_right _ h3
  have hGd : G ∣ den := by rw [hG]; exact Nat.gcd_dvd_right _ _
  have hGn : (G : Int) ∣ num := by rw [hG]; exact Int.dvd_natAbs.1 (Int.natCast_dvd_natCast.2 (Nat.gcd_dvd_left _ _))
  have HG0 : Hid (Nat.gcd A den = G) := by unfold Hid; rw [hA, hG]
  have hq : -4611686018427387904 ≤ num / (G : Int) ∧ num / (G : Int) ≤ 4611686018427387904 := by
    have e := natAbs_div' num G hGn hG0
    have := Nat.div_le_self num.natAbs G
    omega
  have HDb := Lib.hid hq
  have HD1 : Hid (IntKind.i64.wrap (num.tdiv (G : Int)) = num / (G : Int)) := by
    unfold Hid
    rw [Int.tdiv_eq_ediv_of_dvd hGn, IntWalk.i64_in _ (by omega)]
  have HD2 : Hid (IntKind.i64.wrap ((den : Int).tdiv (G : Int)) = ((den / G : Nat) : Int)) := by
    unfold Hid
    have hl := Nat.div_le_self den G
    rw [← Int.ofNat_tdiv]
    generalize den / G = q at hl
    rw [IntWalk.i64_in _ (by omega)]
  have HN := Lib.hid (natAbs_div' num G hGn hG0)
  have HI := Lib.hid (div_neg_iff num G hGn hG0)
  have HGG := Lib.hid hG
  have hl := Nat.div_le_self den G
  have HDL := Lib.hid hl
  have HDc : Hid (0 ≤ (den : Int) / (G : Int) ∧ (den : Int) / (G : Int) ≤ 4611686018427387904) := by
    unfold Hid
    rw [← Int.natCast_ediv]
    generalize den / G = q at hl
    omega
  clear hl
  have g1 : IntKind.i64.wrap (-num) = -num := IntWalk.i64_in _ (by omega)
  clear hG hGd hGn hq
  by_cases hneg : num < 0
  · have hlt : num < -num := by omega
    have HA : Hid (-num = (A : Int)) := by unfold Hid; omega
    have HS : Hid (num / (G : Int) < 0) := HI.out.2 hneg
    clear hA
    go_enter Tryz.func52, Tryz.ntmps52
    go_wp2_with fail
    clear g1
    go_loopw [5, 6] (fun i j wr => ∃ (a b n : Nat), i = .int .i64 a ∧ j = .int .i64 b ∧ a ≤ 4611686018427387904 ∧ b ≤ 4611686018427387904 ∧ Hid (Nat.gcd a b = G) ∧ (w.alloc (.cells #[.bool false, .string ⟨#[]⟩, .string ⟨#[]⟩] 29)).drewN n = wr) (fun _ j _ => (intOf j).toNat)
    case atStart => exact ⟨A, den, 0, by rw [HA.out], rfl, hAb, h4, HG0, rfl⟩
    case round =>
      obtain ⟨a, b, n, rfl, rfl, ha, hb, HG, rfl⟩ := hrel
      rcases Nat.eq_zero_or_pos b with hb0 | hb0
      · subst hb0
        have hag : a = G := by have := HG.out; rw [Nat.gcd_zero_right] at this; exact this
        subst hag
        have e1 : IntKind.i64.wrap (num.tdiv (a : Int)) = num / (a : Int) := HD1.out
        have e2 : IntKind.i64.wrap ((den : Int).tdiv (a : Int)) = ((den / a : Nat) : Int) := HD2.out
        have e3 : ((a : Int) == 0) = false := by simpa using (show a ≠ 0 by omega)
        have hb1 := HDb.out.1
        have hb2 := HDb.out.2
        have hb3 := HDc.out.1
        have hb4 := HDc.out.2
        have hgt : decide ((0 : Int) > 0) = false := by decide
        go_wp2_with fail
        go_quiet (fail)
        clear e1 e2 e3
        have g1 : IntKind.i64.wrap (-(num / (a : Int))) = -(num / (a : Int)) := IntWalk.i64_in _ (by omega)
        have hs := HS.out
        go_wp2_with fail
        obtain ⟨p, hp⟩ : ∃ p : Nat, p = num.natAbs / a := ⟨_, rfl⟩
        obtain ⟨q, hqq⟩ : ∃ q : Nat, q = den / a := ⟨_, rfl⟩
        have ep : -(num / (a : Int)) = (p : Int) := by have := HN.out; omega
        have eq2 : (den : Int) / (a : Int) = (q : Int) := by rw [hqq, Int.natCast_ediv]
        have pb : p ≤ 4611686018427387904 := by omega
        have qb : q ≤ 4611686018427387904 := by omega
        have EP := Lib.hid ep
        have EQ := Lib.hid eq2
        have HP := Lib.hid hp
        have HQ := Lib.hid hqq
        clear hp hqq ep eq2
        refine (digits_int _ p _ EP pb).mono ?_
        rintro e w2 ⟨rfl, hb5⟩
        have BZ := Lib.hid (below_drewN ((Below.refl w.heap.size w).alloc (Nat.le_refl _) (.cells #[.bool false, .string ⟨#[]⟩, .string ⟨#[]⟩] 29)) (n + nq))
        have Z0 := Lib.hid ((Blk.new w 29 #[.bool false, .string ⟨#[]⟩, .string ⟨#[]⟩]).drewN (n + nq))
        have B5 := Lib.hid (BZ.out.trans (hb5.mono BZ.out.size))
        have Z5 := Lib.hid (Z0.out.below hb5 Z0.out.lt)
        clear hb5 BZ Z0
        go_wp2_with fail
        refine (digits_int _ q _ EQ qb).mono ?_
        rintro e w3 ⟨rfl, hb6⟩
        have B6 := Lib.hid (B5.out.trans (hb6.mono B5.out.size))
        have Z6 := Lib.hid (Z5.out.below hb6 Z5.out.lt)
        clear hb6 B5 Z5
        have z0 := Z6.out.cell 0
        have z1 := Z6.out.cell 1
        have z2 := Z6.out.cell 2
        have f0 := Z6.out.frozen 0
        have f1 := Z6.out.frozen 1
        have f2 := Z6.out.frozen 2
        go_wp2_with fail
        have HRT : Hid (ratOf num den = #[.bool true, .string ⟨(digs p).toArray⟩, .string ⟨(digs q).toArray⟩]) := by
          unfold Hid ratOf
          rw [← HGG.out, ← HP.out, ← HQ.out, decide_eq_true hneg]
        have hh : w.heap.size ≤ w.heap.size := Nat.le_refl _
        have Z7 := Lib.hid (((Z6.out.set_ 0 (.bool true)).set_ 1 (.string ⟨(digs p).toArray⟩)).set_ 2 (.string ⟨(digs q).toArray⟩))
        have B7 := Lib.hid (((B6.out.setCell (p := ⟨w.heap.size, 0, none⟩) hh (.bool true)).setCell (p := ⟨w.heap.size, 1, none⟩) hh (.string ⟨(digs p).toArray⟩)).setCell (p := ⟨w.heap.size, 2, none⟩) hh (.string ⟨(digs q).toArray⟩))
        generalize ((w3.setCell ⟨w.heap.size, 0, none⟩ (.bool true)).setCell ⟨w.heap.size, 1, none⟩ (.string ⟨(digs p).toArray⟩)).setCell ⟨w.heap.size, 2, none⟩ (.string ⟨(digs q).toArray⟩) = w8 at Z7 B7 ⊢
        clear z0 z1 z2 f0 f1 f2
        have z0 := Z7.out.cell 0
        have z1 := Z7.out.cell 1
        have z2 := Z7.out.cell 2
        exact bodyPost_ret (v := .agg #[.bool true, .string ⟨(digs p).toArray⟩, .string ⟨(digs q).toArray⟩]) (by simp [results, Tryz.results52, go_sem, z0, z1, z2]) rfl ⟨by rw [HRT.out], B7.out⟩
      · have e1 : IntKind.i64.wrap ((a : Int).tmod (b : Int)) = ((a % b : Nat) : Int) := by
          have h5 := Nat.mod_lt a hb0
          rw [← Int.ofNat_tmod, IntWalk.i64_in _ (by omega)]
        have e3 : ((b : Int) == 0) = false := by simpa using (show b ≠ 0 by omega)
        go_wp2_with fail
        go_quiet (fail)
        clear e1 e3
        go_wp2_with fail
        have h5 := Nat.mod_lt a hb0
        have HG2 : Hid (Nat.gcd b (a % b) = G) := by unfold Hid; rw [← HG.out, Nat.gcd_comm a b, Nat.gcd_rec b a, Nat.gcd_comm]
        go_roundw
        case rel => exact ⟨b, a % b, n + nq, rfl, by go_num, hb, by omega, HG2, by simp [World.drewN, Nat.add_assoc]⟩
        case measure => simp [intOf]; omega
  · have hlt : ¬ num < -num := by omega
    have HA : Hid (num = (A : Int)) := by unfold Hid; omega
    have HS : Hid (¬ num / (G : Int) < 0) := fun h => hneg (HI.out.1 h)
    clear hA
    go_enter Tryz.func52, Tryz.ntmps52
    go_wp2_with fail
    clear g1
    go_loopw [5, 6] (fun i j wr => ∃ (a b n : Nat), i = .int .i64 a ∧ j = .int .i64 b ∧ a ≤ 4611686018427387904 ∧ b ≤ 4611686018427387904 ∧ Hid (Nat.gcd a b = G) ∧ (w.alloc (.cells #[.bool false, .string ⟨#[]⟩, .string ⟨#[]⟩] 29)).drewN n = wr) (fun _ j _ => (intOf j).toNat)
    case atStart => exact ⟨A, den, 0, by rw [HA.out], rfl, hAb, h4, HG0, rfl⟩
    case round =>
      obtain ⟨a, b, n, rfl, rfl, ha, hb, HG, rfl⟩ := hrel
      rcases Nat.eq_zero_or_pos b with hb0 | hb0
      · subst hb0
        have hag : a = G := by have := HG.out; rw [Nat.gcd_zero_right] at this; exact this
        subst hag
        have e1 : IntKind.i64.wrap (num.tdiv (a : Int)) = num / (a : Int) := HD1.out
        have e2 : IntKind.i64.wrap ((den : Int).tdiv (a : Int)) = ((den / a : Nat) : Int) := HD2.out
        have e3 : ((a : Int) == 0) = false := by simpa using (show a ≠ 0 by omega)
        have hb1 := HDb.out.1
        have hb2 := HDb.out.2
        have hb3 := HDc.out.1
        have hb4 := HDc.out.2
        have hgt : decide ((0 : Int) > 0) = false := by decide
        go_wp2_with fail
        go_quiet (fail)
        clear e1 e2 e3
        have g1 : IntKind.i64.wrap (-(num / (a : Int))) = -(num / (a : Int)) := IntWalk.i64_in _ (by omega)
        have hs' : ¬ num / (a : Int) < 0 := Int.not_lt.2 HS.out
        have hs : decide (num / (a : Int) < 0) = false := decide_eq_false hs'
        go_wp2_with fail
        obtain ⟨p, hp⟩ : ∃ p : Nat, p = num.natAbs / a := ⟨_, rfl⟩
        obtain ⟨q, hqq⟩ : ∃ q : Nat, q = den / a := ⟨_, rfl⟩
        have ep : num / (a : Int) = (p : Int) := by have := HN.out; omega
        have eq2 : (den : Int) / (a : Int) = (q : Int) := by rw [hqq, Int.natCast_ediv]
        have pb : p ≤ 4611686018427387904 := by omega
        have qb : q ≤ 4611686018427387904 := by omega
        have EP := Lib.hid ep
        have EQ := Lib.hid eq2
        have HP := Lib.hid hp
        have HQ := Lib.hid hqq
        clear hp hqq ep eq2
        refine (digits_int _ p _ EP pb).mono ?_
        rintro e w2 ⟨rfl, hb5⟩
        have BZ := Lib.hid (below_drewN ((Below.refl w.heap.size w).alloc (Nat.le_refl _) (.cells #[.bool false, .string ⟨#[]⟩, .string ⟨#[]⟩] 29)) (n + nq))
        have Z0 := Lib.hid ((Blk.new w 29 #[.bool false, .string ⟨#[]⟩, .string ⟨#[]⟩]).drewN (n + nq))
        have B5 := Lib.hid (BZ.out.trans (hb5.mono BZ.out.size))
        have Z5 := Lib.hid (Z0.out.below hb5 Z0.out.lt)
        clear hb5 BZ Z0
        go_wp2_with fail
        refine (digits_int _ q _ EQ qb).mono ?_
        rintro e w3 ⟨rfl, hb6⟩
        have B6 := Lib.hid (B5.out.trans (hb6.mono B5.out.size))
        have Z6 := Lib.hid (Z5.out.below hb6 Z5.out.lt)
        clear hb6 B5 Z5
        have z0 := Z6.out.cell 0
        have z1 := Z6.out.cell 1
        have z2 := Z6.out.cell 2
        have f0 := Z6.out.frozen 0
        have f1 := Z6.out.frozen 1
        have f2 := Z6.out.frozen 2
        go_wp2_with fail
        have HRT : Hid (ratOf num den = #[.bool false, .string ⟨(digs p).toArray⟩, .string ⟨(digs q).toArray⟩]) := by
          unfold Hid ratOf
          rw [← HGG.out, ← HP.out, ← HQ.out, decide_eq_false (Int.not_lt.2 hneg)]
        have hh : w.heap.size ≤ w.heap.size := Nat.le_refl _
        have Z7 := Lib.hid (((Z6.out.set_ 0 (.bool false)).set_ 1 (.string ⟨(digs p).toArray⟩)).set_ 2 (.string ⟨(digs q).toArray⟩))
        have B7 := Lib.hid (((B6.out.setCell (p := ⟨w.heap.size, 0, none⟩) hh (.bool false)).setCell (p := ⟨w.heap.size, 1, none⟩) hh (.string ⟨(digs p).toArray⟩)).setCell (p := ⟨w.heap.size, 2, none⟩) hh (.string ⟨(digs q).toArray⟩))
        generalize ((w3.setCell ⟨w.heap.size, 0, none⟩ (.bool false)).setCell ⟨w.heap.size, 1, none⟩ (.string ⟨(digs p).toArray⟩)).setCell ⟨w.heap.size, 2, none⟩ (.string ⟨(digs q).toArray⟩) = w8 at Z7 B7 ⊢
        clear z0 z1 z2 f0 f1 f2
        have z0 := Z7.out.cell 0
        have z1 := Z7.out.cell 1
        have z2 := Z7.out.cell 2
        exact bodyPost_ret (v := .agg #[.bool false, .string ⟨(digs p).toArray⟩, .string ⟨(digs q).toArray⟩]) (by simp [results, Tryz.results52, go_sem, z0, z1, z2]) rfl ⟨by rw [HRT.out], B7.out⟩
      · have e1 : IntKind.i64.wrap ((a : Int).tmod (b : Int)) = ((a % b : Nat) : Int) := by
          have h5 := Nat.mod_lt a hb0
          rw [← Int.ofNat_tmod, IntWalk.i64_in _ (by omega)]
        have e3 : ((b : Int) == 0) = false := by simpa using (show b ≠ 0 by omega)
        go_wp2_with fail
        go_quiet (fail)
        clear e1 e3
        go_wp2_with fail
        have h5 := Nat.mod_lt a hb0
        have HG2 : Hid (Nat.gcd b (a % b) = G) := by unfold Hid; rw [← HG.out, Nat.gcd_comm a b, Nat.gcd_rec b a, Nat.gcd_comm]
        go_roundw
        case rel => exact ⟨b, a % b, n + nq, rfl, by go_num, hb, by omega, HG2, by simp [World.drewN, Nat.add_assoc]⟩
        case measure => simp [intOf]; omega
end Go.Proofs.YtmfejdikfpckdaaGreatDoor

namespace Go.Proofs.YtmfejdikfpckdaaGreatDoor
open Go.RowKit
set_option linter.unusedVariables false
set_option maxRecDepth 100000

/-- The number that bytes are, the greatest first. -/
def shN (l : List UInt8) : Nat := l.foldl (fun n b => n * 256 + b.toNat) 0
theorem shN_snoc (l : List UInt8) (b : UInt8) : shN (l ++ [b]) = shN l * 256 + b.toNat := by simp [shN]
theorem digs_zero : digs 0 = [] := by simp [digs, le_zero]
theorem digs_pos {n : Nat} (h : 0 < n) : digs n = digs (n / 256) ++ [UInt8.ofNat (n % 256)] := by
  unfold digs; rw [le_pos h, List.reverse_cons]
theorem u8_nat (n : Nat) : (UInt8.ofNat (n % 256)).toNat = n % 256 := by simp
theorem shN_digs (n : Nat) : shN (digs n) = n := by
  induction n using Nat.strongRecOn with
  | _ n ih =>
    rcases Nat.eq_zero_or_pos n with h | h
    · subst h; rw [digs_zero]; rfl
    · rw [digs_pos h, shN_snoc, ih _ (by omega), u8_nat]; omega
theorem digs_inj {a b : Nat} (h : digs a = digs b) : a = b := by rw [← shN_digs a, ← shN_digs b, h]
theorem digs_head {n : Nat} (h : 0 < n) : ∃ b t, digs n = b :: t ∧ b ≠ 0 := by
  induction n using Nat.strongRecOn with
  | _ n ih =>
    rw [digs_pos h]
    rcases Nat.eq_zero_or_pos (n / 256) with h0 | h0
    · rw [h0, digs_zero]
      refine ⟨_, [], rfl, fun e => ?_⟩
      have := congrArg UInt8.toNat e
      rw [u8_nat] at this
      simp at this
      omega
    · obtain ⟨b, t, h1, h2⟩ := ih (n / 256) (by omega) h0
      exact ⟨b, t ++ [UInt8.ofNat (n % 256)], by rw [h1]; rfl, h2⟩
theorem digs_len {n k : Nat} (h : n < 256 ^ k) : (digs n).length ≤ k := by unfold digs; rw [List.length_reverse]; exact le_len h
theorem digs_low {n k : Nat} (h : (digs n).length ≤ k) : n < 256 ^ k := by
  induction k generalizing n with
  | zero =>
    have : digs n = [] := List.eq_nil_of_length_eq_zero (by omega)
    have e : n = 0 := by rw [← shN_digs n, this]; rfl
    subst e; decide
  | succ k ih =>
    rcases Nat.eq_zero_or_pos n with h0 | h0
    · subst h0; exact Nat.pow_pos (by decide)
    · rw [digs_pos h0, List.length_append] at h
      have := ih (n := n / 256) (by simp at h; omega)
      rw [Nat.pow_succ]; omega
theorem digs_len_mono {a b : Nat} (h : a ≤ b) : (digs a).length ≤ (digs b).length := by
  refine digs_len ?_
  exact Nat.lt_of_le_of_lt h (digs_low (Nat.le_refl _))
/-- k bytes, the greatest first. -/
def bePad (k n : Nat) : List UInt8 := (List.range k).map fun i => UInt8.ofNat (n / 256 ^ (k - 1 - i) % 256)
theorem bePad_succ (k n : Nat) : bePad (k + 1) n = bePad k (n / 256) ++ [UInt8.ofNat (n % 256)] := by
  unfold bePad
  rw [List.range_succ, List.map_append]
  congr 1
  · refine List.map_congr_left fun i hi => ?_
    rw [List.mem_range] at hi
    rw [show k + 1 - 1 - i = (k - 1 - i) + 1 by omega, Nat.pow_succ, Nat.mul_comm, ← Nat.div_div_eq_div_mul]
  · simp
theorem bePad_eq : ∀ (k n : Nat), n < 256 ^ k → ∃ z, bePad k n = List.replicate z 0 ++ digs n
  | 0, n, h => ⟨0, by have : n = 0 := by simpa using h
                      subst this; simp [bePad, digs_zero]⟩
  | k + 1, n, h => by
    obtain ⟨z, hz⟩ := bePad_eq k (n / 256) (by rw [Nat.pow_succ] at h; omega)
    rw [bePad_succ, hz]
    rcases Nat.eq_zero_or_pos n with h0 | h0
    · subst h0
      refine ⟨z + 1, ?_⟩
      simp [digs_zero, List.replicate_succ']
    · exact ⟨z, by rw [digs_pos h0, List.append_assoc]⟩
theorem or_byte (n : Nat) (b : UInt8) : n * 256 ||| b.toNat = n * 256 + b.toNat := by
  have := Nat.shiftLeft_add_eq_or_of_lt (b := b.toNat) (i := 8) (by have := b.toNat_lt; omega) n
  rw [Nat.shiftLeft_eq] at this
  exact this.symm
theorem take_snoc (s : ByteArray) (k : Nat) (h : k < s.size) : s.data.toList.take (k + 1) = s.data.toList.take k ++ [s[k]] := by
  rw [List.take_succ_eq_append_getElem (by simpa using h)]; rfl
theorem shN_take_lt (l : List UInt8) : ∀ k, shN (l.take k) < 256 ^ k := by
  intro k
  induction k with
  | zero => simp [shN]
  | succ k ih =>
    rcases Nat.lt_or_ge k l.length with h | h
    · rw [List.take_succ_eq_append_getElem h, shN_snoc, Nat.pow_succ]
      have := (l[k]).toNat_lt
      omega
    · rw [List.take_of_length_le (by omega)] at *
      exact Nat.lt_of_lt_of_le ih (Nat.pow_le_pow_right (by decide) (by omega))

/-- A natural number as a string. -/
def nS (n : Nat) : ByteArray := ⟨(digs n).toArray⟩
theorem nS_list (n : Nat) : (nS n).data.toList = digs n := rfl
theorem nS_size (n : Nat) : (nS n).size = (digs n).length := rfl
theorem ba_ext {s t : ByteArray} (h : s.data.toList = t.data.toList) : s = t := by
  obtain ⟨⟨a⟩⟩ := s; obtain ⟨⟨b⟩⟩ := t
  simpa using h
theorem ba_size (s : ByteArray) : s.size = s.data.toList.length := (Array.length_toList (xs := s.data)).symm

theorem short_step (x b : Nat) (hx : x < 72057594037927936) (hb : b < 256) : bits .or .u64 (IntKind.u64.wrap ((x : Int) * 256)) (IntKind.u64.wrap (b : Int)) = ((x * 256 ||| b : Nat) : Int) := by
  rw [IntWalk.u64_in _ (by omega), IntWalk.u64_in _ (by omega)]
  have := u64_or_nat (x * 256) b (by omega) (by omega)
  rw [← this]; rfl
theorem ret_u {k : IntKind} {a b : Int} (h : a = b) : Value.int k a = .int k b := by rw [h]
set_option maxHeartbeats 1000000 in
theorem short_any (s : ByteArray) (w : World) (hs : s.size ≤ 8) :
    Calls Tryz.prog 74 #[.string s] w fun e w' => e = .returned (.int .u64 (shN s.data.toList)) ∧ w = w' := by
  go_enter Tryz.func74, Tryz.ntmps74
  go_wp2
  go_loop [3, 7] (fun n i => ∃ k : Nat, k ≤ s.size ∧ i = .int .i64 k ∧ n = .int .u64 (shN (s.data.toList.take k))) (fun _ i => s.size - (intOf i).toNat)
  case atStart => exact ⟨0, Nat.zero_le _, rfl, rfl⟩
  case round =>
    obtain ⟨k, hk, rfl, rfl⟩ := hrel
    by_cases hlt : k < s.size
    · have hlk : shN (s.data.toList.take k) < 72057594037927936 := Nat.lt_of_lt_of_le (shN_take_lt s.data.toList k) (show 256 ^ k ≤ 256 ^ 7 from Nat.pow_le_pow_right (by decide) (by omega))
      have HV := Lib.hid (short_step (shN (s.data.toList.take k)) s[k].toNat hlk s[k].toNat_lt)
      have HT : Hid (shN (s.data.toList.take (k + 1)) = shN (s.data.toList.take k) * 256 ||| s[k].toNat) := by unfold Hid; rw [take_snoc s k hlt, shN_snoc, or_byte]
      clear hlk
      go_wp2
      go_round
      case rel => exact ⟨k + 1, by omega, by go_num, ret_u (by rw [HT.out, ← HV.out])⟩
      case measure => simp [intOf]; omega
    · have hk2 : k = s.size := by omega
      subst hk2
      go_wp2
      go_ret
      exact ⟨ret_int (by rw [List.take_of_length_le (by rw [← ba_size]; exact Nat.le_refl _)]), rfl⟩

/-- The length of a string that is a value. -/
def szOf : Value → Nat
  | .string s => s.size
  | _ => 0
theorem ba_head {t : ByteArray} {b : UInt8} {r : List UInt8} (h : t.data.toList = b :: r) (hlt : 0 < t.size) : t[0] = b := by
  have h1 : t.data.toList[0]? = some b := by rw [h]; rfl
  have h2 : t.data.toList[0]? = some t[0] := by rw [List.getElem?_eq_getElem (by rw [← ba_size]; exact hlt)]; rfl
  rw [h2] at h1
  injection h1
theorem ba_tail {t : ByteArray} {b : UInt8} {r : List UInt8} (h : t.data.toList = b :: r) : (t.extract 1 t.size).data.toList = r := by
  have : (t.extract 1 t.size).data = t.data.extract 1 t.size := by simp
  rw [this, Array.toList_extract, List.extract_eq_take_drop, h, List.drop_succ_cons, List.drop_zero]
  rw [List.take_of_length_le (by rw [ba_size, h]; simp)]
set_option maxHeartbeats 1000000 in
theorem trim_pad (s : ByteArray) (z n : Nat) (w : World) (hs : Hid (s.data.toList = List.replicate z 0 ++ digs n)) (hz : s.size ≤ 1000000) :
    Calls Tryz.prog 72 #[.string s] w fun e w' => e = .returned (.string (nS n)) ∧ w = w' := by
  go_enter Tryz.func72, Tryz.ntmps72
  go_wp2
  go_loop [0] (fun v => ∃ (t : ByteArray) (z : Nat), v = .string t ∧ Hid (t.data.toList = List.replicate z 0 ++ digs n) ∧ t.size ≤ 1000000) (fun v => szOf v)
  case atStart => exact ⟨s, z, rfl, hs, hz⟩
  case round =>
    clear hs hz
    obtain ⟨t, z, rfl, ht, hz⟩ := hrel
    cases z with
    | zero =>
      have htt : t = nS n := ba_ext (by rw [ht.out]; simp [nS_list])
      rcases Nat.eq_zero_or_pos n with h0 | h0
      · have hsz : t.size = 0 := by rw [htt, nS_size, h0, digs_zero]; rfl
        have HTT := Lib.hid htt
        clear htt h0
        go_wp2
        go_ret
        exact ⟨congrArg (fun s => Ending.returned (.string s)) HTT.out, rfl⟩
      · obtain ⟨b, r, h1, h2⟩ := digs_head h0
        have hlt : 0 < t.size := by rw [htt, nS_size, h1]; simp
        have hb : ((t[0].toNat : Int) == 0) = false := by
          rw [ba_head (t := t) (b := b) (r := r) (by rw [htt, nS_list, h1]) hlt, beq_eq_false_iff_ne]
          intro e
          exact h2 (UInt8.toNat_inj.1 (by simpa using e))
        have HTT := Lib.hid htt
        clear htt h0 h1 h2
        go_wp2
        go_ret
        exact ⟨congrArg (fun s => Ending.returned (.string s)) HTT.out, rfl⟩
    | succ z =>
      have hlt : 0 < t.size := by rw [ba_size, ht.out]; simp only [List.length_append, List.length_replicate]; omega
      have hc : t.data.toList = 0 :: (List.replicate z 0 ++ digs n) := by rw [ht.out, List.replicate_succ, List.cons_append]
      have hb : ((t[0].toNat : Int) == 0) = true := by rw [ba_head hc hlt]; rfl
      have HT := Lib.hid (ba_tail hc)
      have HS : Hid ((t.extract 1 t.size).size + 1 = t.size) := by unfold Hid; rw [ba_size, HT.out, ba_size t, hc, List.length_cons]
      clear hc
      go_wp2
      go_round
      case rel => exact ⟨_, z, rfl, HT.out, by have := HS.out; omega⟩
      case measure => show (t.extract 1 t.size).size < t.size; have := HS.out; omega
theorem trim_nS (n : Nat) (w : World) (hn : (nS n).size ≤ 100000) :
    Calls Tryz.prog 72 #[.string (nS n)] w fun e w' => e = .returned (.string (nS n)) ∧ w = w' :=
  trim_pad (nS n) 0 n w (by simp [Hid, nS_list]) (Nat.le_trans hn (by decide))
theorem short_nS (n : Nat) (w : World) (hn : n < 18446744073709551616) :
    Calls Tryz.prog 74 #[.string (nS n)] w fun e w' => e = .returned (.int .u64 n) ∧ w = w' := by
  have := short_any (nS n) w (by rw [nS_size]; exact digs_len (k := 8) (by exact hn))
  rw [nS_list, shN_digs] at this
  exact this

/-! nat.fromShort -/
/-- The first k of the eight bytes. -/
def bePart (k n : Nat) : List Int := (List.range 8).map fun i => if i < k then ((n / 256 ^ (7 - i) % 256 : Nat) : Int) else 0
theorem bePart_len (k n : Nat) : (bePart k n).length = 8 := by simp [bePart]
theorem bePart_set (k n : Nat) (hk : k < 8) : (bePart k n).set k ((n / 256 ^ (7 - k) % 256 : Nat) : Int) = bePart (k + 1) n := by
  apply List.ext_getElem?
  intro j
  rw [List.getElem?_set]
  unfold bePart
  by_cases h : k = j
  · subst h
    simp [hk]
  · rw [if_neg h]
    simp only [List.getElem?_map]
    by_cases hj : j < 8
    · rw [List.getElem?_range hj]
      simp only [Option.map_some]
      by_cases h1 : j < k
      · rw [if_pos h1, if_pos (by omega)]
      · rw [if_neg h1, if_neg (by omega)]
    · rw [List.getElem?_eq_none (by simp; omega)]
      rfl
theorem bePart_full (n : Nat) : bePart 8 n = (bePad 8 n).map fun b : UInt8 => (b.toNat : Int) := by
  unfold bePart bePad
  rw [List.map_map]
  refine List.map_congr_left fun i hi => ?_
  rw [List.mem_range] at hi
  rw [if_pos hi]
  simp only [Function.comp, u8_nat]
theorem be_shift (n k : Nat) (hk : k < 8) : (n : Int) / 2 ^ (56 - 8 * k) % 256 = ((n / 256 ^ (7 - k) % 256 : Nat) : Int) := by
  rw [show (256 : Nat) = 2 ^ 8 from rfl, ← Nat.pow_mul, show 8 * (7 - k) = 56 - 8 * k by omega]
  rw [Int.natCast_emod, Int.natCast_ediv, Int.natCast_pow]
  rfl
theorem set_arr8 (xs : List Int) (k : Nat) (v : Int) : ((xs.map (Value.int .u8)).toArray.setIfInBounds k (.int .u8 v)) = ((xs.set k v).map (Value.int .u8)).toArray := by
  apply Array.ext'
  simp [List.map_set]
set_option maxHeartbeats 2000000 in
theorem fromShort_any (n : Nat) (w : World) (hn : n < 18446744073709551616) :
    Calls Tryz.prog 73 #[.int .u64 n] w fun e w' => e = .returned (.string (nS n)) ∧ Below w.heap.size w w' := by
  have X0 := Lib.hid (Blk.new w 148 #[.int .u8 0, .int .u8 0, .int .u8 0, .int .u8 0, .int .u8 0, .int .u8 0, .int .u8 0, .int .u8 0])
  have B0 := Lib.hid ((Below.refl w.heap.size w).alloc (Nat.le_refl _) (.cells #[.int .u8 0, .int .u8 0, .int .u8 0, .int .u8 0, .int .u8 0, .int .u8 0, .int .u8 0, .int .u8 0] 148))
  go_enter Tryz.func73, Tryz.ntmps73
  go_wp2
  go_loopw [5] (fun i wr => ∃ k : Nat, i = .int .i64 k ∧ k ≤ 8 ∧ Hid (Blk wr w.heap.size 148 ((bePart k n).map (Value.int .u8)).toArray) ∧ Hid (Below w.heap.size w wr)) (fun i _ => 8 - (intOf i).toNat)
  case atStart => exact ⟨0, rfl, by omega, X0, B0⟩
  case round =>
    clear X0 B0
    obtain ⟨k, rfl, hk, X, B⟩ := hrel
    by_cases hlt : k < 8
    · have fz := X.out.frozen k
      have cl : wr.cell? ⟨w.heap.size, k, none⟩ = some (.int .u8 ((bePart k n)[k]'(by rw [bePart_len]; exact hlt))) := by
        rw [X.out.cell]; simp [bePart_len, hlt]
      have X2 : Hid (Blk (wr.setCell ⟨w.heap.size, k, none⟩ (.int .u8 ((n : Int) / 2 ^ (56 - 8 * k) % 256))) w.heap.size 148 ((bePart (k + 1) n).map (Value.int .u8)).toArray) := by
        have := X.out.set_ k (.int .u8 ((n : Int) / 2 ^ (56 - 8 * k) % 256))
        rw [set_arr8, be_shift n k hlt, bePart_set k n hlt] at this
        rw [be_shift n k hlt]
        exact this
      have B2 := Lib.hid (B.out.setCell (p := ⟨w.heap.size, k, none⟩) (Nat.le_refl _) (.int .u8 ((n : Int) / 2 ^ (56 - 8 * k) % 256)))
      go_wp2
      go_roundw
      case rel => exact ⟨k + 1, by go_num, by omega, X2, B2⟩
      case measure => simp [intOf]; omega
    · have hk8 : k = 8 := by omega
      subst hk8
      obtain ⟨z, hz⟩ := bePad_eq 8 n hn
      have cv := run_convert_bytes_back (P := Tryz.prog) wr 149 9 5 ⟨w.heap.size, 0, none⟩ 8 (bePad 8 n) Tryz.underlying149 Tryz.underlying5 Tryz.underlying9 (fun j hj => by
        rw [Addr.add_lit, Nat.zero_add, X.out.cell, bePart_full]
        simp only [List.map_map, List.getElem?_toArray, List.getElem?_map, List.getElem?_eq_getElem hj, Option.map_some]
        rfl)
      have hl : (bePad 8 n).length = 8 := by simp [bePad]
      rw [hl] at cv
      have HZ : Hid ((⟨(bePad 8 n).toArray⟩ : ByteArray).data.toList = List.replicate z 0 ++ digs n) := hz
      have hsz : (⟨(bePad 8 n).toArray⟩ : ByteArray).size ≤ 1000000 := by rw [ba_size]; simp [hl]
      clear hz hl
      go_wp2_with fail
      refine (trim_pad _ z n _ HZ hsz).mono ?_
      rintro e w2 ⟨rfl, rfl⟩
      go_wp2
      go_ret
      exact ⟨rfl, B.out⟩
end Go.Proofs.YtmfejdikfpckdaaGreatDoor
