/- The walk of gantmake.Of. -/
import Derived.Test.YtbhbbnmllokglaaOs9
import Derived.Deep.QuietTactic
import Derived.BigQuiet
namespace Go.Proofs.Ytbhbbnmllokglaa
open Go.RowKit
set_option linter.unusedVariables false
set_option maxRecDepth 100000

/-- The rational number num / den, as three cells. -/
def ratOf (num : Int) (den : Nat) : Array Value := #[.bool (decide (num < 0)), .string ⟨(digs (num.natAbs / Nat.gcd num.natAbs den)).toArray⟩, .string ⟨(digs (den / Nat.gcd num.natAbs den)).toArray⟩]
theorem div_neg_iff (num : Int) (g : Nat) (hd : (g : Int) ∣ num) (hg : 0 < g) : num / (g : Int) < 0 ↔ num < 0 := by
  obtain ⟨k, rfl⟩ := hd
  rw [Int.mul_ediv_cancel_left _ (by omega)]
  constructor
  · intro h; exact Int.mul_neg_of_pos_of_neg (by omega) h
  · intro h
    rcases Int.lt_or_le k 0 with h1 | h1
    · exact h1
    · have := Int.mul_nonneg (show (0 : Int) ≤ g by omega) h1; omega
theorem natAbs_div' (num : Int) (g : Nat) (hd : (g : Int) ∣ num) (hg : 0 < g) : (num / (g : Int)).natAbs = num.natAbs / g := by
  rw [Int.natAbs_ediv_of_dvd hd, Int.natAbs_natCast]

theorem digits_int (x : Int) (n : Nat) (w : World) (hx : Hid (x = (n : Int))) (hn : n ≤ 4611686018427387904) :
    Calls Try.prog 32 #[.int .i64 x] w fun e w' => e = .returned (.string ⟨(digs n).toArray⟩) ∧ Below w.heap.size w w' := by
  rw [hx.out]
  exact digits_any n w hn
set_option maxHeartbeats 4000000 in
theorem of_any (num : Int) (den : Nat) (w : World) (h1 : -4611686018427387904 ≤ num) (h2 : num ≤ 4611686018427387904) (h3 : 0 < den) (h4 : den ≤ 4611686018427387904) :
    Calls Try.prog 18 #[.int .i64 num, .int .i64 den] w fun e w' => e = .returned (.agg (ratOf num den)) ∧ Below w.heap.size w w' := by
  obtain ⟨A, hA⟩ : ∃ A : Nat, A = num.natAbs := ⟨_, rfl⟩
  obtain ⟨G, hG⟩ : ∃ G : Nat, G = Nat.gcd num.natAbs den := ⟨_, rfl⟩
  have hAb : A ≤ 4611686018427387904 := by omega
  have hG0 : 0 < G := by rw [hG]; exact Nat.gcd_pos_of_pos_right _ h3
  have hGd : G ∣ den := by rw [hG]; exact Nat.gcd_dvd_right _ _
  have hGn : (G : Int) ∣ num := by rw [hG]; exact Int.dvd_natAbs.1 (Int.natCast_dvd_natCast.2 (Nat.gcd_dvd_left _ _))
  have HG0 : Hid (Nat.gcd A den = G) := by unfold Hid; rw [hA, hG]
  have hq : -4611686018427387904 ≤ num / (G : Int) ∧ num / (G : Int) ≤ 4611686018427387904 := by
    have e := natAbs_div' num G hGn hG0
    have := Nat.div_le_self num.natAbs G
    omega
  have HDb := Lib.hid hq
  have HD1 : Hid (IntKind.i64.wrap (num.tdiv (G : Int)) = num / (G : Int)) := by
    unfold Hid
    rw [Int.tdiv_eq_ediv_of_dvd hGn, IntWalk.i64_in _ (by omega)]
  have HD2 : Hid (IntKind.i64.wrap ((den : Int).tdiv (G : Int)) = ((den / G : Nat) : Int)) := by
    unfold Hid
    have hl := Nat.div_le_self den G
    rw [← Int.ofNat_tdiv]
    generalize den / G = q at hl
    rw [IntWalk.i64_in _ (by omega)]
  have HN := Lib.hid (natAbs_div' num G hGn hG0)
  have HI := Lib.hid (div_neg_iff num G hGn hG0)
  have HGG := Lib.hid hG
  have hl := Nat.div_le_self den G
  have HDL := Lib.hid hl
  have HDc : Hid (0 ≤ (den : Int) / (G : Int) ∧ (den : Int) / (G : Int) ≤ 4611686018427387904) := by
    unfold Hid
    rw [← Int.natCast_ediv]
    generalize den / G = q at hl
    omega
  clear hl
  have g1 : IntKind.i64.wrap (-num) = -num := IntWalk.i64_in _ (by omega)
  clear hG hGd hGn hq
  by_cases hneg : num < 0
  · have hlt : num < -num := by omega
    have HA : Hid (-num = (A : Int)) := by unfold Hid; omega
    have HS : Hid (num / (G : Int) < 0) := HI.out.2 hneg
    clear hA
    go_enter Try.func18, Try.ntmps18
    go_wp2_with fail
    clear g1
    go_loopw [5, 6] (fun i j wr => ∃ (a b n : Nat), i = .int .i64 a ∧ j = .int .i64 b ∧ a ≤ 4611686018427387904 ∧ b ≤ 4611686018427387904 ∧ Hid (Nat.gcd a b = G) ∧ (w.alloc (.cells #[.bool false, .string ⟨#[]⟩, .string ⟨#[]⟩] 33)).drewN n = wr) (fun _ j _ => (intOf j).toNat)
    case atStart => exact ⟨A, den, 0, by rw [HA.out], rfl, hAb, h4, HG0, rfl⟩
    case round =>
      obtain ⟨a, b, n, rfl, rfl, ha, hb, HG, rfl⟩ := hrel
      rcases Nat.eq_zero_or_pos b with hb0 | hb0
      · subst hb0
        have hag : a = G := by have := HG.out; rw [Nat.gcd_zero_right] at this; exact this
        subst hag
        have e1 : IntKind.i64.wrap (num.tdiv (a : Int)) = num / (a : Int) := HD1.out
        have e2 : IntKind.i64.wrap ((den : Int).tdiv (a : Int)) = ((den / a : Nat) : Int) := HD2.out
        have e3 : ((a : Int) == 0) = false := by simpa using (show a ≠ 0 by omega)
        have hb1 := HDb.out.1
        have hb2 := HDb.out.2
        have hb3 := HDc.out.1
        have hb4 := HDc.out.2
        have hgt : decide ((0 : Int) > 0) = false := by decide
        go_wp2_with fail
        go_quiet (fail)
        clear e1 e2 e3
        have g1 : IntKind.i64.wrap (-(num / (a : Int))) = -(num / (a : Int)) := IntWalk.i64_in _ (by omega)
        have hs := HS.out
        go_wp2_with fail
        obtain ⟨p, hp⟩ : ∃ p : Nat, p = num.natAbs / a := ⟨_, rfl⟩
        obtain ⟨q, hqq⟩ : ∃ q : Nat, q = den / a := ⟨_, rfl⟩
        have ep : -(num / (a : Int)) = (p : Int) := by have := HN.out; omega
        have eq2 : (den : Int) / (a : Int) = (q : Int) := by rw [hqq, Int.natCast_ediv]
        have pb : p ≤ 4611686018427387904 := by omega
        have qb : q ≤ 4611686018427387904 := by omega
        have EP := Lib.hid ep
        have EQ := Lib.hid eq2
        have HP := Lib.hid hp
        have HQ := Lib.hid hqq
        clear hp hqq ep eq2
        refine (digits_int _ p _ EP pb).mono ?_
        rintro e w2 ⟨rfl, hb5⟩
        have BZ := Lib.hid (below_drewN ((Below.refl w.heap.size w).alloc (Nat.le_refl _) (.cells #[.bool false, .string ⟨#[]⟩, .string ⟨#[]⟩] 33)) (n + nq))
        have Z0 := Lib.hid ((Blk.new w 33 #[.bool false, .string ⟨#[]⟩, .string ⟨#[]⟩]).drewN (n + nq))
        have B5 := Lib.hid (BZ.out.trans (hb5.mono BZ.out.size))
        have Z5 := Lib.hid (Z0.out.below hb5 Z0.out.lt)
        clear hb5 BZ Z0
        go_wp2_with fail
        refine (digits_int _ q _ EQ qb).mono ?_
        rintro e w3 ⟨rfl, hb6⟩
        have B6 := Lib.hid (B5.out.trans (hb6.mono B5.out.size))
        have Z6 := Lib.hid (Z5.out.below hb6 Z5.out.lt)
        clear hb6 B5 Z5
        have z0 := Z6.out.cell 0
        have z1 := Z6.out.cell 1
        have z2 := Z6.out.cell 2
        have f0 := Z6.out.frozen 0
        have f1 := Z6.out.frozen 1
        have f2 := Z6.out.frozen 2
        go_wp2_with fail
        have HRT : Hid (ratOf num den = #[.bool true, .string ⟨(digs p).toArray⟩, .string ⟨(digs q).toArray⟩]) := by
          unfold Hid ratOf
          rw [← HGG.out, ← HP.out, ← HQ.out, decide_eq_true hneg]
        have hh : w.heap.size ≤ w.heap.size := Nat.le_refl _
        have Z7 := Lib.hid (((Z6.out.set_ 0 (.bool true)).set_ 1 (.string ⟨(digs p).toArray⟩)).set_ 2 (.string ⟨(digs q).toArray⟩))
        have B7 := Lib.hid (((B6.out.setCell (p := ⟨w.heap.size, 0, none⟩) hh (.bool true)).setCell (p := ⟨w.heap.size, 1, none⟩) hh (.string ⟨(digs p).toArray⟩)).setCell (p := ⟨w.heap.size, 2, none⟩) hh (.string ⟨(digs q).toArray⟩))
        generalize ((w3.setCell ⟨w.heap.size, 0, none⟩ (.bool true)).setCell ⟨w.heap.size, 1, none⟩ (.string ⟨(digs p).toArray⟩)).setCell ⟨w.heap.size, 2, none⟩ (.string ⟨(digs q).toArray⟩) = w8 at Z7 B7 ⊢
        clear z0 z1 z2 f0 f1 f2
        have z0 := Z7.out.cell 0
        have z1 := Z7.out.cell 1
        have z2 := Z7.out.cell 2
        exact bodyPost_ret (v := .agg #[.bool true, .string ⟨(digs p).toArray⟩, .string ⟨(digs q).toArray⟩]) (by simp [results, Try.results18, go_sem, z0, z1, z2]) rfl ⟨by rw [HRT.out], B7.out⟩
      · have e1 : IntKind.i64.wrap ((a : Int).tmod (b : Int)) = ((a % b : Nat) : Int) := by
          have h5 := Nat.mod_lt a hb0
          rw [← Int.ofNat_tmod, IntWalk.i64_in _ (by omega)]
        have e3 : ((b : Int) == 0) = false := by simpa using (show b ≠ 0 by omega)
        go_wp2_with fail
        go_quiet (fail)
        clear e1 e3
        go_wp2_with fail
        have h5 := Nat.mod_lt a hb0
        have HG2 : Hid (Nat.gcd b (a % b) = G) := by unfold Hid; rw [← HG.out, Nat.gcd_comm a b, Nat.gcd_rec b a, Nat.gcd_comm]
        go_roundw
        case rel => exact ⟨b, a % b, n + nq, rfl, by go_num, hb, by omega, HG2, by simp [World.drewN, Nat.add_assoc]⟩
        case measure => simp [intOf]; omega
  · have hlt : ¬ num < -num := by omega
    have HA : Hid (num = (A : Int)) := by unfold Hid; omega
    have HS : Hid (¬ num / (G : Int) < 0) := fun h => hneg (HI.out.1 h)
    clear hA
    go_enter Try.func18, Try.ntmps18
    go_wp2_with fail
    clear g1
    go_loopw [5, 6] (fun i j wr => ∃ (a b n : Nat), i = .int .i64 a ∧ j = .int .i64 b ∧ a ≤ 4611686018427387904 ∧ b ≤ 4611686018427387904 ∧ Hid (Nat.gcd a b = G) ∧ (w.alloc (.cells #[.bool false, .string ⟨#[]⟩, .string ⟨#[]⟩] 33)).drewN n = wr) (fun _ j _ => (intOf j).toNat)
    case atStart => exact ⟨A, den, 0, by rw [HA.out], rfl, hAb, h4, HG0, rfl⟩
    case round =>
      obtain ⟨a, b, n, rfl, rfl, ha, hb, HG, rfl⟩ := hrel
      rcases Nat.eq_zero_or_pos b with hb0 | hb0
      · subst hb0
        have hag : a = G := by have := HG.out; rw [Nat.gcd_zero_right] at this; exact this
        subst hag
        have e1 : IntKind.i64.wrap (num.tdiv (a : Int)) = num / (a : Int) := HD1.out
        have e2 : IntKind.i64.wrap ((den : Int).tdiv (a : Int)) = ((den / a : Nat) : Int) := HD2.out
        have e3 : ((a : Int) == 0) = false := by simpa using (show a ≠ 0 by omega)
        have hb1 := HDb.out.1
        have hb2 := HDb.out.2
        have hb3 := HDc.out.1
        have hb4 := HDc.out.2
        have hgt : decide ((0 : Int) > 0) = false := by decide
        go_wp2_with fail
        go_quiet (fail)
        clear e1 e2 e3
        have g1 : IntKind.i64.wrap (-(num / (a : Int))) = -(num / (a : Int)) := IntWalk.i64_in _ (by omega)
        have hs' : ¬ num / (a : Int) < 0 := Int.not_lt.2 HS.out
        have hs : decide (num / (a : Int) < 0) = false := decide_eq_false hs'
        go_wp2_with fail
        obtain ⟨p, hp⟩ : ∃ p : Nat, p = num.natAbs / a := ⟨_, rfl⟩
        obtain ⟨q, hqq⟩ : ∃ q : Nat, q = den / a := ⟨_, rfl⟩
        have ep : num / (a : Int) = (p : Int) := by have := HN.out; omega
        have eq2 : (den : Int) / (a : Int) = (q : Int) := by rw [hqq, Int.natCast_ediv]
        have pb : p ≤ 4611686018427387904 := by omega
        have qb : q ≤ 4611686018427387904 := by omega
        have EP := Lib.hid ep
        have EQ := Lib.hid eq2
        have HP := Lib.hid hp
        have HQ := Lib.hid hqq
        clear hp hqq ep eq2
        refine (digits_int _ p _ EP pb).mono ?_
        rintro e w2 ⟨rfl, hb5⟩
        have BZ := Lib.hid (below_drewN ((Below.refl w.heap.size w).alloc (Nat.le_refl _) (.cells #[.bool false, .string ⟨#[]⟩, .string ⟨#[]⟩] 33)) (n + nq))
        have Z0 := Lib.hid ((Blk.new w 33 #[.bool false, .string ⟨#[]⟩, .string ⟨#[]⟩]).drewN (n + nq))
        have B5 := Lib.hid (BZ.out.trans (hb5.mono BZ.out.size))
        have Z5 := Lib.hid (Z0.out.below hb5 Z0.out.lt)
        clear hb5 BZ Z0
        go_wp2_with fail
        refine (digits_int _ q _ EQ qb).mono ?_
        rintro e w3 ⟨rfl, hb6⟩
        have B6 := Lib.hid (B5.out.trans (hb6.mono B5.out.size))
        have Z6 := Lib.hid (Z5.out.below hb6 Z5.out.lt)
        clear hb6 B5 Z5
        have z0 := Z6.out.cell 0
        have z1 := Z6.out.cell 1
        have z2 := Z6.out.cell 2
        have f0 := Z6.out.frozen 0
        have f1 := Z6.out.frozen 1
        have f2 := Z6.out.frozen 2
        go_wp2_with fail
        have HRT : Hid (ratOf num den = #[.bool false, .string ⟨(digs p).toArray⟩, .string ⟨(digs q).toArray⟩]) := by
          unfold Hid ratOf
          rw [← HGG.out, ← HP.out, ← HQ.out, decide_eq_false (Int.not_lt.2 hneg)]
        have hh : w.heap.size ≤ w.heap.size := Nat.le_refl _
        have Z7 := Lib.hid (((Z6.out.set_ 0 (.bool false)).set_ 1 (.string ⟨(digs p).toArray⟩)).set_ 2 (.string ⟨(digs q).toArray⟩))
        have B7 := Lib.hid (((B6.out.setCell (p := ⟨w.heap.size, 0, none⟩) hh (.bool false)).setCell (p := ⟨w.heap.size, 1, none⟩) hh (.string ⟨(digs p).toArray⟩)).setCell (p := ⟨w.heap.size, 2, none⟩) hh (.string ⟨(digs q).toArray⟩))
        generalize ((w3.setCell ⟨w.heap.size, 0, none⟩ (.bool false)).setCell ⟨w.heap.size, 1, none⟩ (.string ⟨(digs p).toArray⟩)).setCell ⟨w.heap.size, 2, none⟩ (.string ⟨(digs q).toArray⟩) = w8 at Z7 B7 ⊢
        clear z0 z1 z2 f0 f1 f2
        have z0 := Z7.out.cell 0
        have z1 := Z7.out.cell 1
        have z2 := Z7.out.cell 2
        exact bodyPost_ret (v := .agg #[.bool false, .string ⟨(digs p).toArray⟩, .string ⟨(digs q).toArray⟩]) (by simp [results, Try.results18, go_sem, z0, z1, z2]) rfl ⟨by rw [HRT.out], B7.out⟩
      · have e1 : IntKind.i64.wrap ((a : Int).tmod (b : Int)) = ((a % b : Nat) : Int) := by
          have h5 := Nat.mod_lt a hb0
          rw [← Int.ofNat_tmod, IntWalk.i64_in _ (by omega)]
        have e3 : ((b : Int) == 0) = false := by simpa using (show b ≠ 0 by omega)
        go_wp2_with fail
        go_quiet (fail)
        clear e1 e3
        go_wp2_with fail
        have h5 := Nat.mod_lt a hb0
        have HG2 : Hid (Nat.gcd b (a % b) = G) := by unfold Hid; rw [← HG.out, Nat.gcd_comm a b, Nat.gcd_rec b a, Nat.gcd_comm]
        go_roundw
        case rel => exact ⟨b, a % b, n + nq, rfl, by go_num, hb, by omega, HG2, by simp [World.drewN, Nat.add_assoc]⟩
        case measure => simp [intOf]; omega
end Go.Proofs.Ytbhbbnmllokglaa
