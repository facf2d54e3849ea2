/- The walk of gantkeep4.ActAll. -/
import Derived.Test.YtioofkhadjaldaaActQ
import Derived.Test.YtioofkhadjaldaaRnd
namespace Go.Proofs.Ytioofkhadjaldaa
open Go.RowKit
set_option linter.unusedVariables false
set_option maxRecDepth 100000

theorem below_q (x n q : Int) (w : World) (hn : 0 < n) (h1 : -9223372036854775808 ≤ x) (h2 : x ≤ 9223372036854775807) (h3 : n ≤ 9223372036854775807) (hq : Hid (x % n = q)) :
    Calls Try.prog 15 #[.int .i64 x, .int .i64 n] w fun e w' => e = .returned (.int .i64 q) ∧ w = w' := hq.out ▸ below_any x n w hn h1 h2 h3
set_option maxHeartbeats 8000000 in
theorem ActAll_any (A B : Option Addr) (n c m d : Nat) (kind arm part slot : Int) (xs ys : List Int) (w : World) (hi : IntArg w A n c xs) (hj : IntArg w B m d ys)
    (r1 : -9223372036854775808 ≤ kind ∧ kind ≤ 9223372036854775807) (r2 : -9223372036854775808 ≤ arm ∧ arm ≤ 9223372036854775807) (r3 : -9223372036854775808 ≤ part ∧ part ≤ 9223372036854775807) (r4 : -9223372036854775808 ≤ slot ∧ slot ≤ 9223372036854775807) :
    Calls Try.prog 4 #[.slice A n c, .slice B m d, .int .i64 kind, .int .i64 arm, .int .i64 part, .int .i64 slot] w fun e w' => e = .returned (.bool true) ∧ Below w.heap.size w w' := by
  have HI := Lib.hid hi
  have HJ := Lib.hid hj
  obtain ⟨r1a, r1b⟩ := r1
  obtain ⟨r2a, r2b⟩ := r2
  obtain ⟨r3a, r3b⟩ := r3
  obtain ⟨r4a, r4b⟩ := r4
  obtain ⟨q1, hq1⟩ : ∃ q, kind % 4 = q := ⟨_, rfl⟩
  obtain ⟨q2, hq2⟩ : ∃ q, arm % 3 = q := ⟨_, rfl⟩
  obtain ⟨q3, hq3⟩ : ∃ q, part % 4 = q := ⟨_, rfl⟩
  obtain ⟨q4, hq4⟩ : ∃ q, slot % 4 = q := ⟨_, rfl⟩
  have b1 : 0 ≤ q1 ∧ q1 ≤ 3 := by omega
  have b2 : 0 ≤ q2 ∧ q2 ≤ 2 := by omega
  have b3 : 0 ≤ q3 ∧ q3 ≤ 3 := by omega
  have b4 : 0 ≤ q4 ∧ q4 ≤ 3 := by omega
  obtain ⟨b1a, b1b⟩ := b1
  obtain ⟨b2a, b2b⟩ := b2
  obtain ⟨b3a, b3b⟩ := b3
  obtain ⟨b4a, b4b⟩ := b4
  have Q1 := Lib.hid hq1
  have Q2 := Lib.hid hq2
  have Q3 := Lib.hid hq3
  have Q4 := Lib.hid hq4
  clear hi hj hq1 hq2 hq3 hq4
  go_enter Try.func4, Try.ntmps4
  go_wp2_with fail
  refine (Small_any A n c xs _ HI.out).mono ?_
  rintro e w1 ⟨na, np, ns, B1, B2, B3, b1, b2, b3, rfl, hna, hnp, hns, hw1, hb1⟩
  have HB1 := Lib.hid hb1
  clear hw1 hb1
  go_wp2_with fail
  refine (World_any na np ns B1 B2 B3 b1 b2 b3 B m d ys _ (HJ.out.below HB1.out) hna hnp hns).mono ?_
  rintro e w2 ⟨x, g1, g2, g3, d1, d2, d3, rfl, ho, hv, hsl, hb2⟩
  have V := Lib.hid hv
  have HB2 := Lib.hid (HB1.out.trans (hb2.mono HB1.out.size))
  have O2 := Lib.hid (ho.mono HB1.out.size)
  have na1 := hna.1
  have na2 := hna.2
  have np1 := hnp.1
  have np2 := hnp.2
  clear ho hv hsl hb2 hna hnp hns HB1 HI HJ
  have KB := Lib.hid ((Below.refl w2.heap.size w2).alloc (Nat.le_refl _) (.cells #[.int .i64 x.slots, .slice (some ⟨g1, 0, none⟩) np d1, .slice (some ⟨g2, 0, none⟩) np d2, .slice (some ⟨g3, 0, none⟩) na d3] 25))
  have G3 : Hid (GW w.heap.size (w2.alloc (.cells #[.int .i64 x.slots, .slice (some ⟨g1, 0, none⟩) np d1, .slice (some ⟨g2, 0, none⟩) np d2, .slice (some ⟨g3, 0, none⟩) na d3] 25)) x w2.heap.size g1 g2 g3 np na d1 d2 d3) := ⟨Blk.new _ _ _, O2.out.bel KB.out⟩
  have HB3 := Lib.hid (HB2.out.trans (KB.out.mono HB2.out.size))
  clear KB O2 HB2
  go_wp2_with fail
  obtain ⟨gt, hgt⟩ : ∃ gt, gt = w2.heap.size := ⟨_, rfl⟩
  rw [← hgt] at G3
  generalize hw3 : w2.alloc (.cells #[.int .i64 x.slots, .slice (some ⟨g1, 0, none⟩) np d1, .slice (some ⟨g2, 0, none⟩) np d2, .slice (some ⟨g3, 0, none⟩) na d3] 25) = w3 at G3 HB3 ⊢
  simp only [← hgt]
  clear hw3 hgt
  refine (below_q kind 4 q1 _ (by omega) r1a r1b (by omega) Q1).mono ?_
  rintro e w' ⟨rfl, rfl⟩
  go_wp2_with fail
  refine (below_q arm 3 q2 _ (by omega) r2a r2b (by omega) Q2).mono ?_
  rintro e w' ⟨rfl, rfl⟩
  go_wp2_with fail
  refine (below_q part 4 q3 _ (by omega) r3a r3b (by omega) Q3).mono ?_
  rintro e w' ⟨rfl, rfl⟩
  go_wp2_with fail
  refine (below_q slot 4 q4 _ (by omega) r4a r4b (by omega) Q4).mono ?_
  rintro e w' ⟨rfl, rfl⟩
  have KS := Lib.hid ((Below.refl w3.heap.size w3).alloc (Nat.le_refl _) (.cells #[.int .i64 q1, .int .i64 q2, .int .i64 (q3 - 1), .int .i64 (q4 - 1), .int .i64 0] 39))
  have S4 := Lib.hid (Blk.new w3 39 #[.int .i64 q1, .int .i64 q2, .int .i64 (q3 - 1), .int .i64 (q4 - 1), .int .i64 0])
  have G4 := Lib.hid (G3.out.bel KS.out)
  have HB4 := Lib.hid (HB3.out.trans (KS.out.mono HB3.out.size))
  obtain ⟨t0, t1, t2, t3⟩ := blk4 G4.out.T
  clear KS G3 HB3
  go_wp2_with fail
  obtain ⟨gs, hgs⟩ : ∃ gs, gs = w3.heap.size := ⟨_, rfl⟩
  rw [← hgs] at S4
  generalize hw4 : w3.alloc (.cells #[.int .i64 q1, .int .i64 q2, .int .i64 (q3 - 1), .int .i64 (q4 - 1), .int .i64 0] 39) = w4 at G4 HB4 S4 t0 t1 t2 t3 ⊢
  simp only [← hgs]
  clear hw4 hgs t0 t1 t2 t3
  refine (Steps_any x _ _ _ np na d1 d2 d3 _ (G4.out.O.rw4 (by omega) (by omega)) V.out (by omega) (by omega)).mono ?_
  rintro e w5 ⟨A5, c5, ss, rfl, hsp, hsl, ho5, hb5⟩
  have RS5 : Hid (RS w5 A5 ss) := RK.own St.len ho5 rfl
  have G5 := Lib.hid (G4.out.bel hb5)
  have S5 := Lib.hid (S4.out.below hb5 S4.out.lt)
  have HB5 := Lib.hid (HB4.out.trans (hb5.mono HB4.out.size))
  have P5 := Lib.hid hsp
  clear ho5 hb5 hsp G4 S4 HB4
  obtain ⟨ok, hok⟩ : ∃ ok : Bool, ok = decide (canP x ⟨q1, q2, q3 - 1, q4 - 1, 0⟩ = 0) := ⟨_, rfl⟩
  obtain ⟨cn, hcn⟩ : ∃ cn, canP x ⟨q1, q2, q3 - 1, q4 - 1, 0⟩ = cn := ⟨_, rfl⟩
  have HM : Hid (ok = decide ((⟨q1, q2, q3 - 1, q4 - 1, 0⟩ : St) ∈ ss)) := by
    unfold Hid
    rw [hok]
    apply decide_eq_decide.2
    rw [P5.out.2]
    dsimp only
    constructor
    · intro h; exact ⟨by omega, h⟩
    · intro h; exact h.2
  have HC := Lib.hid hcn
  have he : (cn == 0) = ok := by rw [hok, hcn]; rfl
  have HE := Lib.hid he
  have t0 := fun s : Ext w5 => s.cell (G5.out.T.cell 0)
  have t1 := fun s : Ext w5 => s.cell (G5.out.T.cell 1)
  have t2 := fun s : Ext w5 => s.cell (G5.out.T.cell 2)
  have t3 := fun s : Ext w5 => s.cell (G5.out.T.cell 3)
  have s0 := fun s : Ext w5 => s.cell (S5.out.cell 0)
  have s1 := fun s : Ext w5 => s.cell (S5.out.cell 1)
  have s2 := fun s : Ext w5 => s.cell (S5.out.cell 2)
  have s3 := fun s : Ext w5 => s.cell (S5.out.cell 3)
  have s4 := fun s : Ext w5 => s.cell (S5.out.cell 4)
  have hoo : (ok == ok) = true := by simp
  clear hok hcn he
  go_wp2_with fail
  refine wp_region_ext (by kernel_rfl) (by kernel_rfl) ?_
  repeat (go_big_quiet_step (fail))
  go_big_quiet_step ((go_at_call 14; refine Calls.ext (acted_any _)))
  repeat (go_big_quiet_step (fail))
  go_big_quiet_step ((go_at_call 17; refine Calls.ext (containsS_any A5 ss.length c5 ss ⟨q1, q2, q3 - 1, q4 - 1, 0⟩ ok _ (RK.below RS5.out (Ext.h _)) rfl (by omega) HM)))
  repeat (go_big_quiet_step (fail))
  go_big_quiet_step ((go_at_call 18; refine Calls.ext (Can_any x _ _ _ np na d1 d2 d3 q1 q2 (q3 - 1) (q4 - 1) 0 _ ((G5.out.O.rw4 (by omega) (by omega)).below (Ext.h _)) V.out cn HC)))
  have he := HE.out
  repeat (go_big_quiet_step (fail))
  go_big_quiet_step ((go_at_call 19; refine Calls.ext (IsSortedS_any A5 ss.length c5 ss _ (RK.below RS5.out (Ext.h _)) rfl (by omega) P5.out.1)))
  repeat (go_big_quiet_step (fail))
  refine wpQuiet_nil ?_
  intro _ hw'
  obtain ⟨s, rfl⟩ := hw'
  go_wp2_with fail
  go_ret
  exact ⟨rfl, keep_below HB5.out (Nat.le_refl _) s.h⟩
end Go.Proofs.Ytioofkhadjaldaa
