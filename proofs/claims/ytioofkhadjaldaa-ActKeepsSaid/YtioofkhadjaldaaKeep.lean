/- The walk of gantkeep4.ActKeeps. -/
import Derived.Test.YtioofkhadjaldaaKeepP
import Derived.Test.YtioofkhadjaldaaAllS
namespace Go.Proofs.Ytioofkhadjaldaa
open Go.RowKit
set_option linter.unusedVariables false
set_option maxRecDepth 100000

theorem Do_y (x : AW) (A1 A2 A3 : Option Addr) (n1 n3 c1 c2 c3 : Nat) (s : St) (y : AW) (w : World) (hx : RW4 w x A1 A2 A3 n1 n1 n3 c1 c2 c3) (hv : ValidA x) (h1 : 0 < n1) (h3 : 0 < n3) (HC : Hid (canP x s = 0)) (HY : Hid (doS x s = y)) :
    Calls Try.prog 24 #[.agg #[.int .i64 x.slots, .slice A1 n1 c1, .slice A2 n1 c2, .slice A3 n3 c3], .agg #[.int .i64 s.kind, .int .i64 s.arm, .int .i64 s.part, .int .i64 s.slot, .int .i64 s.ticks]] w fun e w' => ∃ g1 g2 g3 d1 d2 d3, e = .returned (.tuple #[.agg #[.int .i64 y.slots, .slice (some ⟨g1, 0, none⟩) n1 d1, .slice (some ⟨g2, 0, none⟩) n1 d2, .slice (some ⟨g3, 0, none⟩) n3 d3], .int .i64 0]) ∧ OW w.heap.size w' y g1 g2 g3 n1 n3 d1 d2 d3 ∧ Below w.heap.size w w' := by
  have hs : y.slots = x.slots := by rw [← HY.out]; exact (doS_len x s).2.2.2
  rw [hs, ← HY.out]
  exact Do_yes x A1 A2 A3 n1 n3 c1 c2 c3 s.kind s.arm s.part s.slot s.ticks w hx hv h1 h3 HC
theorem Can_s (x : AW) (A1 A2 A3 : Option Addr) (n1 n3 c1 c2 c3 : Nat) (s : St) (w : World) (hx : RW4 w x A1 A2 A3 n1 n1 n3 c1 c2 c3) (hv : ValidA x) (r : Int) (hr : Hid (canP x s = r)) :
    Calls Try.prog 18 #[.agg #[.int .i64 x.slots, .slice A1 n1 c1, .slice A2 n1 c2, .slice A3 n3 c3], .agg #[.int .i64 s.kind, .int .i64 s.arm, .int .i64 s.part, .int .i64 s.slot, .int .i64 s.ticks]] w fun e w' => e = .returned (.int .i64 r) ∧ Below w.heap.size w w' := Can_any x A1 A2 A3 n1 n3 c1 c2 c3 s.kind s.arm s.part s.slot s.ticks w hx hv r hr
theorem setF_sound {x : AW} (hv : ValidA x) {rs : List Fct} (h : SetF rs (fun f => FactP x f ∧ okF f)) : SoundP rs := sound_facts hv (fun f hf => ((h.2 f).1 hf).1)
theorem Sound_yes (A : Option Addr) (c : Nat) (fs : List Fct) (w : World) (hR : RF w A fs) (hm : fs.length ≤ 1000) (hc : fs.length ≤ c) (hs : SoundP fs) :
    Calls Try.prog 22 #[.slice A fs.length c] w fun e w' => e = .returned (.bool true) ∧ Below w.heap.size w w' :=
  (Sound_any A fs.length c fs w hR rfl hm hc).mono fun e w' ⟨⟨r, he, hr⟩, hb⟩ => ⟨by rw [he, hr.2 hs], hb⟩

set_option maxHeartbeats 8000000 in
theorem ActKeeps_any (A B : Option Addr) (n c m d : Nat) (xs ys : List Int) (w : World) (hi : IntArg w A n c xs) (hj : IntArg w B m d ys) :
    Calls Try.prog 5 #[.slice A n c, .slice B m d] w fun e w' => e = .returned (.bool true) ∧ Below w.heap.size w w' := by
  have HI := Lib.hid hi
  have HJ := Lib.hid hj
  clear hi hj
  go_enter Try.func5, Try.ntmps5
  go_wp2_with fail
  refine (Small_any A n c xs _ HI.out).mono ?_
  rintro e w1 ⟨na, np, ns, B1, B2, B3, b1, b2, b3, rfl, hna, hnp, hns, hw1, hb1⟩
  have HB1 := Lib.hid hb1
  clear hw1 hb1
  go_wp2_with fail
  refine (World_any na np ns B1 B2 B3 b1 b2 b3 B m d ys _ (HJ.out.below HB1.out) hna hnp hns).mono ?_
  rintro e w2 ⟨x, g1, g2, g3, d1, d2, d3, rfl, ho, hv, hsl, hb2⟩
  have V := Lib.hid hv
  have HB2 := Lib.hid (HB1.out.trans (hb2.mono HB1.out.size))
  have O2 := Lib.hid (ho.mono HB1.out.size)
  have na1 := hna.1
  have na2 := hna.2
  have np1 := hnp.1
  have np2 := hnp.2
  clear ho hv hsl hb2 hna hnp hns HB1 HI HJ
  have KB := Lib.hid ((Below.refl w2.heap.size w2).alloc (Nat.le_refl _) (.cells #[.int .i64 x.slots, .slice (some ⟨g1, 0, none⟩) np d1, .slice (some ⟨g2, 0, none⟩) np d2, .slice (some ⟨g3, 0, none⟩) na d3] 25))
  have G3 : Hid (GW w.heap.size (w2.alloc (.cells #[.int .i64 x.slots, .slice (some ⟨g1, 0, none⟩) np d1, .slice (some ⟨g2, 0, none⟩) np d2, .slice (some ⟨g3, 0, none⟩) na d3] 25)) x w2.heap.size g1 g2 g3 np na d1 d2 d3) := ⟨Blk.new _ _ _, O2.out.bel KB.out⟩
  have HB3 := Lib.hid (HB2.out.trans (KB.out.mono HB2.out.size))
  clear KB O2 HB2
  go_wp2_with fail
  obtain ⟨gt, hgt⟩ : ∃ gt, gt = w2.heap.size := ⟨_, rfl⟩
  rw [← hgt] at G3
  generalize hw3 : w2.alloc (.cells #[.int .i64 x.slots, .slice (some ⟨g1, 0, none⟩) np d1, .slice (some ⟨g2, 0, none⟩) np d2, .slice (some ⟨g3, 0, none⟩) na d3] 25) = w3 at G3 HB3 ⊢
  simp only [← hgt]
  clear hw3 hgt
  refine (acted_any _).mono ?_
  rintro e w4 ⟨rfl, hb4⟩
  have G4 := Lib.hid (G3.out.bel hb4)
  have HB4 := Lib.hid (HB3.out.trans (hb4.mono HB3.out.size))
  obtain ⟨t0, t1, t2, t3⟩ := blk4 G4.out.T
  clear hb4 G3 HB3
  go_wp2_with fail
  clear t0 t1 t2 t3
  refine (Check_ok x _ _ _ np np na d1 d2 d3 _ (G4.out.O.rw4 (by omega) (by omega)) V.out).mono ?_
  rintro e w5 ⟨rfl, hb5⟩
  have G5 := Lib.hid (G4.out.bel hb5)
  have HB5 := Lib.hid (HB4.out.trans (hb5.mono HB4.out.size))
  obtain ⟨t0, t1, t2, t3⟩ := blk4 G5.out.T
  clear hb5 G4 HB4
  go_wp2_with fail
  clear t0 t1 t2 t3
  refine (Facts_at x _ _ _ np na d1 d2 d3 _ (G5.out.O.rw4 (by omega) (by omega)) V.out (by omega) (by omega)).mono ?_
  rintro e w6 ⟨Af, cf, fs, rfl, hrf, hwf, hsf, hlf, hb6⟩
  have RF6 := Lib.hid hrf
  have SF6 := Lib.hid (setF_sound V.out hsf)
  have cf6 := hwf.le
  have G6 := Lib.hid (G5.out.bel hb6)
  have HB6 := Lib.hid (HB5.out.trans (hb6.mono HB5.out.size))
  clear hrf hwf hsf hb6 G5 HB5
  go_wp2_with fail
  refine (Sound_yes Af cf fs _ RF6.out (by omega) cf6 SF6.out).mono ?_
  rintro e w7 ⟨rfl, hb7⟩
  have G7 := Lib.hid (G6.out.bel hb7)
  have HB7 := Lib.hid (HB6.out.trans (hb7.mono HB6.out.size))
  obtain ⟨t0, t1, t2, t3⟩ := blk4 G7.out.T
  clear hb7 G6 HB6 RF6 SF6 cf6 hlf
  go_wp2_with fail
  clear t0 t1 t2 t3
  refine (Steps_any x _ _ _ np na d1 d2 d3 _ (G7.out.O.rw4 (by omega) (by omega)) V.out (by omega) (by omega)).mono ?_
  rintro e w8 ⟨A5, c5, ss, rfl, hsp, hsl, ho5, hb8⟩
  have RS8 : Hid (RS w8 A5 ss) := RK.own St.len ho5 rfl
  have G8 := Lib.hid (G7.out.bel hb8)
  have HB8 := Lib.hid (HB7.out.trans (hb8.mono HB7.out.size))
  have P8 := Lib.hid hsp
  clear ho5 hb8 hsp G7 HB7
  go_wp2_with fail
  go_loopw [30] (fun i wr => ∃ k : Nat, i = .int .i64 k ∧ k ≤ ss.length ∧ Hid (Below w8.heap.size w8 wr)) (fun i _ => ss.length - (intOf i).toNat)
  case atStart => exact ⟨0, rfl, by omega, Below.refl _ _⟩
  case round =>
    obtain ⟨k, rfl, hk, Bl⟩ := hrel
    by_cases hlt : k < ss.length
    · obtain ⟨s, hs⟩ := some_at hlt
      obtain ⟨b, o, hA, hb, c0, c1, c2, c3, c4⟩ := RS.at (RK.below RS8.out Bl.out) hs
      have hmem := (P8.out.2 s).1 (List.mem_of_getElem? hs)
      have HC := Lib.hid hmem.2
      have HK4 := Lib.hid hmem.1
      obtain ⟨y, hy⟩ : ∃ y, doS x s = y := ⟨_, rfl⟩
      have HY := Lib.hid hy
      have VY : Hid (ValidA y) := by unfold Hid; rw [← hy]; exact valid_do V.out HC.out
      have HNE : Hid (false = decide (x = y)) := by unfold Hid; rw [← hy, decide_eq_false (step_ne V.out HC.out HK4.out)]
      subst hA
      clear hs hmem hy
      have KS := Lib.hid ((Below.refl wr.heap.size wr).alloc (Nat.le_refl _) (.cells #[.int .i64 s.kind, .int .i64 s.arm, .int .i64 s.part, .int .i64 s.slot, .int .i64 s.ticks] 39))
      have S9 := Lib.hid (Blk.new wr 39 #[.int .i64 s.kind, .int .i64 s.arm, .int .i64 s.part, .int .i64 s.slot, .int .i64 s.ticks])
      have B9 := Lib.hid (Bl.out.trans (KS.out.mono Bl.out.size))
      have G9 := Lib.hid (G8.out.bel B9.out)
      obtain ⟨t0, t1, t2, t3⟩ := blk4 G9.out.T
      clear KS
      go_wp2_with fail
      obtain ⟨gs, hgs⟩ : ∃ gs, gs = wr.heap.size := ⟨_, rfl⟩
      rw [← hgs] at S9
      generalize hw9 : wr.alloc (.cells #[.int .i64 s.kind, .int .i64 s.arm, .int .i64 s.part, .int .i64 s.slot, .int .i64 s.ticks] 39) = w9 at S9 B9 G9 t0 t1 t2 t3 ⊢
      simp only [← hgs]
      clear hw9 hgs t0 t1 t2 t3 c0 c1 c2 c3 c4
      refine (Do_y x _ _ _ np na d1 d2 d3 s y _ (G9.out.O.rw4 (by omega) (by omega)) V.out (by omega) (by omega) HC HY).mono ?_
      rintro e w10 ⟨j1, j2, j3, e1, e2, e3, rfl, ho10, hb10⟩
      have B10 := Lib.hid (B9.out.trans (hb10.mono B9.out.size))
      have S10 := Lib.hid (S9.out.below hb10 S9.out.lt)
      have KN := Lib.hid ((Below.refl w10.heap.size w10).alloc (Nat.le_refl _) (.cells #[.int .i64 y.slots, .slice (some ⟨j1, 0, none⟩) np e1, .slice (some ⟨j2, 0, none⟩) np e2, .slice (some ⟨j3, 0, none⟩) na e3] 25))
      have N11 : Hid (GW w9.heap.size (w10.alloc (.cells #[.int .i64 y.slots, .slice (some ⟨j1, 0, none⟩) np e1, .slice (some ⟨j2, 0, none⟩) np e2, .slice (some ⟨j3, 0, none⟩) na e3] 25)) y w10.heap.size j1 j2 j3 np na e1 e2 e3) := ⟨Blk.new _ _ _, ho10.bel KN.out⟩
      have B11 := Lib.hid (B10.out.trans (KN.out.mono B10.out.size))
      have S11 := Lib.hid (S10.out.below KN.out S10.out.lt)
      have G11 := Lib.hid (G8.out.bel B11.out)
      obtain ⟨t0, t1, t2, t3⟩ := blk4 G11.out.T
      obtain ⟨s0, s1, s2, s3, s4⟩ := blk5 S11.out
      clear ho10 hb10 KN S10 B10 B9 S9 G9
      go_wp2_with fail
      obtain ⟨gn, hgn⟩ : ∃ gn, gn = w10.heap.size := ⟨_, rfl⟩
      rw [← hgn] at N11
      generalize hw11 : w10.alloc (.cells #[.int .i64 y.slots, .slice (some ⟨j1, 0, none⟩) np e1, .slice (some ⟨j2, 0, none⟩) np e2, .slice (some ⟨j3, 0, none⟩) na e3] 25) = w11 at N11 B11 S11 G11 t0 t1 t2 t3 s0 s1 s2 s3 s4 ⊢
      simp only [← hgn]
      clear hw11 hgn t0 t1 t2 t3 s0 s1 s2 s3 s4
      refine (Can_s x _ _ _ np na d1 d2 d3 s _ (G11.out.O.rw4 (by omega) (by omega)) V.out 0 HC).mono ?_
      rintro e w12 ⟨rfl, hb12⟩
      have N12 := Lib.hid (N11.out.bel hb12)
      have B12 := Lib.hid (B11.out.trans (hb12.mono B11.out.size))
      obtain ⟨t0, t1, t2, t3⟩ := blk4 N12.out.T
      clear hb12 N11 B11 S11 G11
      go_wp2_with fail
      clear t0 t1 t2 t3
      refine (Check_ok y _ _ _ np np na e1 e2 e3 _ (N12.out.O.rw4 (by omega) (by omega)) VY.out).mono ?_
      rintro e w13 ⟨rfl, hb13⟩
      have N13 := Lib.hid (N12.out.bel hb13)
      have B13 := Lib.hid (B12.out.trans (hb13.mono B12.out.size))
      obtain ⟨t0, t1, t2, t3⟩ := blk4 N13.out.T
      clear hb13 N12 B12
      go_wp2_with fail
      clear t0 t1 t2 t3
      refine (Facts_at y _ _ _ np na e1 e2 e3 _ (N13.out.O.rw4 (by omega) (by omega)) VY.out (by omega) (by omega)).mono ?_
      rintro e w14 ⟨Af, cf, fs, rfl, hrf, hwf, hsf, hlf, hb14⟩
      have RF14 := Lib.hid hrf
      have SF14 := Lib.hid (setF_sound VY.out hsf)
      have cf14 := hwf.le
      have N14 := Lib.hid (N13.out.bel hb14)
      have B14 := Lib.hid (B13.out.trans (hb14.mono B13.out.size))
      clear hrf hwf hsf hb14 N13 B13
      go_wp2_with fail
      refine (Sound_yes Af cf fs _ RF14.out (by omega) cf14 SF14.out).mono ?_
      rintro e w15 ⟨rfl, hb15⟩
      have N15 := Lib.hid (N14.out.bel hb15)
      have B15 := Lib.hid (B14.out.trans (hb15.mono B14.out.size))
      have G15 := Lib.hid (G8.out.bel B15.out)
      obtain ⟨t0, t1, t2, t3⟩ := blk4 N15.out.T
      obtain ⟨r0, r1, r2, r3⟩ := blk4 G15.out.T
      clear hb15 N14 B14 RF14 SF14 cf14 hlf
      go_wp2_with fail
      clear t0 t1 t2 t3 r0 r1 r2 r3
      refine (Same_any x y _ _ _ _ _ _ np na d1 d2 d3 np na e1 e2 e3 _ (G15.out.O.rw4 (by omega) (by omega)) (N15.out.O.rw4 (by omega) (by omega)) (by omega) (by omega) (by omega) (by omega) false HNE).mono ?_
      rintro e w16 ⟨rfl, hb16⟩
      have B16 := Lib.hid (B15.out.trans (hb16.mono B15.out.size))
      clear hb16 N15 B15 G15
      go_wp2_with fail
      go_roundw
      case rel => exact ⟨k + 1, by go_num, by omega, B16⟩
      case measure => simp [intOf]; omega
    · go_wp2_with fail
      go_ret
      exact ⟨rfl, HB8.out.trans (Bl.out.mono HB8.out.size)⟩
end Go.Proofs.Ytioofkhadjaldaa
