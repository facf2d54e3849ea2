/- The walk of gantkeep4.ActFacts. -/
import Derived.Test.YtioofkhadjaldaaPick
namespace Go.Proofs.Ytioofkhadjaldaa
open Go.RowKit
set_option linter.unusedVariables false
set_option maxRecDepth 100000

/-- A set of facts that is read. -/
structure FS (w : World) (A : Option Addr) (c : Nat) (fs : List Fct) (n : Nat) (P : Fct → Prop) : Prop where
  r : RF w A fs
  w : WfS A fs.length c
  s : SetF fs P
  l : fs.length ≤ n
theorem FS.bel {w w' : World} {A : Option Addr} {c n : Nat} {fs : List Fct} {P : Fct → Prop} (h : FS w A c fs n P) (hb : Below w.heap.size w w') : FS w' A c fs n P := ⟨RK.below h.r hb, h.w, h.s, h.l⟩
theorem zeq (s : St) (b : Bool) (hb : b = decide (s = ⟨0, 0, 0, 0, 0⟩)) (w : World) : Sem.run Try.prog (binOp .eql 39 (.agg #[.int .i64 s.kind, .int .i64 s.arm, .int .i64 s.part, .int .i64 s.slot, .int .i64 s.ticks]) (.agg #[.int .i64 0, .int .i64 0, .int .i64 0, .int .i64 0, .int .i64 0])) w = .ok (.bool b) w := by
  rw [hb]; exact eqS_run s ⟨0, 0, 0, 0, 0⟩ w
theorem not_zero {x : AW} {s : St} (h : canP x s = 0) : s ≠ ⟨0, 0, 0, 0, 0⟩ := by
  intro e
  have hf := (canP_ok h).1
  rw [e] at hf
  revert hf
  decide

set_option maxHeartbeats 8000000 in
theorem ActFacts_any (A B : Option Addr) (n c m d : Nat) (xs ys : List Int) (k : Int) (w : World) (hi : IntArg w A n c xs) (hj : IntArg w B m d ys) (k1 : -9223372036854775808 ≤ k) (k2 : k ≤ 9223372036854775807) :
    Calls Try.prog 6 #[.slice A n c, .slice B m d, .int .i64 k] w fun e w' => e = .returned (.bool true) ∧ Below w.heap.size w w' := by
  have HI := Lib.hid hi
  have HJ := Lib.hid hj
  clear hi hj
  go_enter Try.func6, Try.ntmps6
  go_wp2_with fail
  refine (Small_any A n c xs _ HI.out).mono ?_
  rintro e w1 ⟨na, np, ns, B1, B2, B3, b1, b2, b3, rfl, hna, hnp, hns, hw1, hb1⟩
  have HB1 := Lib.hid hb1
  clear hw1 hb1
  go_wp2_with fail
  refine (World_any na np ns B1 B2 B3 b1 b2 b3 B m d ys _ (HJ.out.below HB1.out) hna hnp hns).mono ?_
  rintro e w2 ⟨x, g1, g2, g3, d1, d2, d3, rfl, ho, hv, hsl, hb2⟩
  have V := Lib.hid hv
  have HB2 := Lib.hid (HB1.out.trans (hb2.mono HB1.out.size))
  have O2 := Lib.hid (ho.mono HB1.out.size)
  have na1 := hna.1
  have na2 := hna.2
  have np1 := hnp.1
  have np2 := hnp.2
  clear ho hv hsl hb2 hna hnp hns HB1 HI HJ
  have KB := Lib.hid ((Below.refl w2.heap.size w2).alloc (Nat.le_refl _) (.cells #[.int .i64 x.slots, .slice (some ⟨g1, 0, none⟩) np d1, .slice (some ⟨g2, 0, none⟩) np d2, .slice (some ⟨g3, 0, none⟩) na d3] 25))
  have G3 : Hid (GW w.heap.size (w2.alloc (.cells #[.int .i64 x.slots, .slice (some ⟨g1, 0, none⟩) np d1, .slice (some ⟨g2, 0, none⟩) np d2, .slice (some ⟨g3, 0, none⟩) na d3] 25)) x w2.heap.size g1 g2 g3 np na d1 d2 d3) := ⟨Blk.new _ _ _, O2.out.bel KB.out⟩
  have HB3 := Lib.hid (HB2.out.trans (KB.out.mono HB2.out.size))
  obtain ⟨t0, t1, t2, t3⟩ := blk4 G3.out.T
  clear KB O2 HB2
  go_wp2_with fail
  obtain ⟨gt, hgt⟩ : ∃ gt, gt = w2.heap.size := ⟨_, rfl⟩
  rw [← hgt] at G3
  generalize hw3 : w2.alloc (.cells #[.int .i64 x.slots, .slice (some ⟨g1, 0, none⟩) np d1, .slice (some ⟨g2, 0, none⟩) np d2, .slice (some ⟨g3, 0, none⟩) na d3] 25) = w3 at G3 HB3 t0 t1 t2 t3 ⊢
  simp only [← hgt]
  clear hw3 hgt t0 t1 t2 t3
  refine (Steps_any x _ _ _ np na d1 d2 d3 _ (G3.out.O.rw4 (by omega) (by omega)) V.out (by omega) (by omega)).mono ?_
  rintro e w4 ⟨A5, c5, ss, rfl, hsp, hsl, ho5, hb4⟩
  have RS4 : Hid (RS w4 A5 ss) := RK.own St.len ho5 rfl
  have G4 := Lib.hid (G3.out.bel hb4)
  have HB4 := Lib.hid (HB3.out.trans (hb4.mono HB3.out.size))
  have P4 := Lib.hid hsp
  clear ho5 hb4 hsp G3 HB3
  go_wp2_with fail
  refine (pick_any A5 c5 ss k _ RS4.out (by omega) k1 k2).mono ?_
  rintro e w5 ⟨s, rfl, hpk, hb5⟩
  have PK := Lib.hid hpk
  have G5 := Lib.hid (G4.out.bel hb5)
  have HB5 := Lib.hid (HB4.out.trans (hb5.mono HB4.out.size))
  have KS := Lib.hid ((Below.refl w5.heap.size w5).alloc (Nat.le_refl _) (.cells #[.int .i64 s.kind, .int .i64 s.arm, .int .i64 s.part, .int .i64 s.slot, .int .i64 s.ticks] 39))
  have S6 := Lib.hid (Blk.new w5 39 #[.int .i64 s.kind, .int .i64 s.arm, .int .i64 s.part, .int .i64 s.slot, .int .i64 s.ticks])
  have G6 := Lib.hid (G5.out.bel KS.out)
  have HB6 := Lib.hid (HB5.out.trans (KS.out.mono HB5.out.size))
  clear hpk hb5 KS G4 HB4 G5 HB5 RS4
  go_wp2_with fail
  obtain ⟨gs, hgs⟩ : ∃ gs, gs = w5.heap.size := ⟨_, rfl⟩
  rw [← hgs] at S6
  generalize hw6 : w5.alloc (.cells #[.int .i64 s.kind, .int .i64 s.arm, .int .i64 s.part, .int .i64 s.slot, .int .i64 s.ticks] 39) = w6 at S6 G6 HB6 ⊢
  simp only [← hgs]
  clear hw6 hgs
  refine (acted_any _).mono ?_
  rintro e w7 ⟨rfl, hb7⟩
  have G7 := Lib.hid (G6.out.bel hb7)
  have S7 := Lib.hid (S6.out.below hb7 S6.out.lt)
  have HB7 := Lib.hid (HB6.out.trans (hb7.mono HB6.out.size))
  obtain ⟨s0, s1, s2, s3, s4⟩ := blk5 S7.out
  clear hb7 G6 HB6 S6
  by_cases hz : s = ⟨0, 0, 0, 0, 0⟩
  · have hq := zeq s true (by rw [decide_eq_true hz])
    clear hz
    go_wp2_with fail
    refine (acted_any _).mono ?_
    rintro e w8 ⟨rfl, hb8⟩
    have HB8 := Lib.hid (HB7.out.trans (hb8.mono HB7.out.size))
    clear hb8
    go_wp2_with fail
    go_ret
    exact ⟨rfl, HB8.out⟩
  · have hq := zeq s false (by rw [decide_eq_false hz])
    have hmem := (P4.out.2 s).1 (PK.out.mem hz)
    have HC := Lib.hid hmem.2
    obtain ⟨y, hy⟩ : ∃ y, doS x s = y := ⟨_, rfl⟩
    have HY := Lib.hid hy
    have VY : Hid (ValidA y) := by unfold Hid; rw [← hy]; exact valid_do V.out HC.out
    have HD : Hid (∃ l m, Diff x y s.arm l m) := by unfold Hid; rw [← hy]; exact step_diff V.out hmem.2 hmem.1
    obtain ⟨t0, t1, t2, t3⟩ := blk4 G7.out.T
    clear hz hmem hy PK
    go_wp2_with fail
    clear hq t0 t1 t2 t3 s0 s1 s2 s3 s4
    refine (Do_y x _ _ _ np na d1 d2 d3 s y _ (G7.out.O.rw4 (by omega) (by omega)) V.out (by omega) (by omega) HC HY).mono ?_
    rintro e w8 ⟨j1, j2, j3, e1, e2, e3, rfl, ho8, hb8⟩
    have KN := Lib.hid ((Below.refl w8.heap.size w8).alloc (Nat.le_refl _) (.cells #[.int .i64 y.slots, .slice (some ⟨j1, 0, none⟩) np e1, .slice (some ⟨j2, 0, none⟩) np e2, .slice (some ⟨j3, 0, none⟩) na e3] 25))
    have N9 : Hid (GW w7.heap.size (w8.alloc (.cells #[.int .i64 y.slots, .slice (some ⟨j1, 0, none⟩) np e1, .slice (some ⟨j2, 0, none⟩) np e2, .slice (some ⟨j3, 0, none⟩) na e3] 25)) y w8.heap.size j1 j2 j3 np na e1 e2 e3) := ⟨Blk.new _ _ _, ho8.bel KN.out⟩
    have B9 := Lib.hid (hb8.trans (KN.out.mono hb8.size))
    have S9 := Lib.hid (S7.out.below B9.out S7.out.lt)
    have G9 := Lib.hid (G7.out.bel B9.out)
    have HB9 := Lib.hid (HB7.out.trans (B9.out.mono HB7.out.size))
    clear ho8 hb8 KN S7 G7 HB7 B9
    go_wp2_with fail
    obtain ⟨gn, hgn⟩ : ∃ gn, gn = w8.heap.size := ⟨_, rfl⟩
    rw [← hgn] at N9
    generalize hw9 : w8.alloc (.cells #[.int .i64 y.slots, .slice (some ⟨j1, 0, none⟩) np e1, .slice (some ⟨j2, 0, none⟩) np e2, .slice (some ⟨j3, 0, none⟩) na e3] 25) = w9 at N9 S9 G9 HB9 ⊢
    simp only [← hgn]
    clear hw9 hgn
    have RX := Lib.hid ((G9.out.O.rw4 (by omega) (by omega)).below (Below.refl w9.heap.size w9).drew)
    have RY := Lib.hid ((N9.out.O.rw4 (by omega) (by omega)).below (Below.refl w9.heap.size w9).drew)
    have NT := Lib.hid N9.out.T.drew
    obtain ⟨t0, t1, t2, t3⟩ := blk4 G9.out.T
    obtain ⟨n0, n1, n2, n3⟩ := blk4 N9.out.T
    go_cut [11, 12] (fun s11 s12 wx => ∃ (Aa Ab : Option Addr) (ca cb : Nat) (av bv : List Fct), s11 = .slice Aa av.length ca ∧ s12 = .slice Ab bv.length cb ∧ Hid (FS wx Aa ca av 28 (fun f => FactP x f ∧ okF f)) ∧ Hid (FS wx Ab cb bv 28 (fun f => FactP y f ∧ okF f)) ∧ Hid (Below w9.heap.size w9 wx))
    case first =>
      go_region_law (go_simp; first | (go_at_call 23; (with_reducible refine (Facts_at x _ _ _ np na d1 d2 d3 _ RX.out V.out (by omega) (by omega)).mono ?_); rintro e wq ⟨Aa, ca, av, rfl, hr, hw, hs, hl, hb⟩; have F1 : Hid (FS wq Aa ca av 28 (fun f => FactP x f ∧ okF f)) := ⟨hr, hw, hs, hl⟩; have BQ := Lib.hid hb; have RYQ := Lib.hid (RY.out.below hb); obtain ⟨q0, q1, q2, q3⟩ := blk4 (NT.out.below hb NT.out.lt); clear hr hw hs hl hb) | (go_at_call 23; (with_reducible refine (Facts_at y _ _ _ np na e1 e2 e3 _ RYQ.out VY.out (by omega) (by omega)).mono ?_); rintro e wr ⟨Ab, cb, bv, rfl, hr, hw, hs, hl, hb⟩; have F2 : Hid (FS wr Ab cb bv 28 (fun f => FactP y f ∧ okF f)) := ⟨hr, hw, hs, hl⟩; have F1R := Lib.hid (F1.out.bel hb); have BR := Lib.hid (BQ.out.trans (hb.mono BQ.out.size)); clear hr hw hs hl hb))
      all_goals
        go_wp2_with fail
        go_meet
        exact ⟨Aa, Ab, ca, cb, av, bv, rfl, rfl, F1R, F2, (Below.refl w9.heap.size w9).drew.trans BR.out⟩
    case rest =>
      clear t0 t1 t2 t3 n0 n1 n2 n3 RX RY NT
      obtain ⟨Aa, Ab, ca, cb, av, bv, rfl, rfl, FA, FB, BQ⟩ := hcut
      have HB10 := Lib.hid (HB9.out.trans (BQ.out.mono HB9.out.size))
      have S10 := Lib.hid (S9.out.below BQ.out S9.out.lt)
      have la := FA.out.l
      have lb := FB.out.l
      clear HB9 S9 G9 N9 BQ
      go_wp2_with fail
      refine (Minus_any Aa Ab av.length bv.length ca cb av bv _ FA.out.r FB.out.r rfl rfl (by omega) (by omega)).mono ?_
      rintro e w11 ⟨Al, cl, ls, rfl, hr, hw, hs, hl, hb⟩
      have FL : Hid (FS w11 Al cl ls 28 (fun f => (f ∈ av ∧ ¬ f ∈ bv) ∧ okF f)) := ⟨hr, hw, hs, by omega⟩
      have FA1 := Lib.hid (FA.out.bel hb)
      have FB1 := Lib.hid (FB.out.bel hb)
      have S11 := Lib.hid (S10.out.below hb S10.out.lt)
      have HB11 := Lib.hid (HB10.out.trans (hb.mono HB10.out.size))
      clear hr hw hs hl hb FA FB S10 HB10
      go_wp2_with fail
      refine (Minus_any Ab Aa bv.length av.length cb ca bv av _ FB1.out.r FA1.out.r rfl rfl (by omega) (by omega)).mono ?_
      rintro e w12 ⟨Am, cm, ms, rfl, hr, hw, hs, hl, hb⟩
      have FM : Hid (FS w12 Am cm ms 28 (fun f => (f ∈ bv ∧ ¬ f ∈ av) ∧ okF f)) := ⟨hr, hw, hs, by omega⟩
      have FA2 := Lib.hid (FA1.out.bel hb)
      have FB2 := Lib.hid (FB1.out.bel hb)
      have FL2 := Lib.hid (FL.out.bel hb)
      have S12 := Lib.hid (S11.out.below hb S11.out.lt)
      have HB12 := Lib.hid (HB11.out.trans (hb.mono HB11.out.size))
      clear hr hw hs hl hb FA1 FB1 FL S11 HB11
      have CH := Lib.hid (chg V.out VY.out HD.out FA2.out.s FB2.out.s FL2.out.s FM.out.s)
      have ll := CH.out.l
      have lm := CH.out.m
      have ln := CH.out.n
      go_wp2_with fail
      refine (Apply_any Aa Al Am av.length ls.length ms.length ca cl cm av ls ms _ FA2.out.r FL2.out.r FM.out.r rfl rfl rfl FM.out.w (by omega) (by omega) (by omega)).mono ?_
      rintro e w13 ⟨Ar, cr, rs, rfl, hr, hw, hs, hl, hb⟩
      have er : rs = bv := CH.out.e rs hs
      subst er
      have RR := Lib.hid hr
      have RB := Lib.hid (RK.below FB2.out.r hb)
      have FL3 := Lib.hid (FL2.out.bel hb)
      have FM3 := Lib.hid (FM.out.bel hb)
      have S13 := Lib.hid (S12.out.below hb S12.out.lt)
      have HB13 := Lib.hid (HB12.out.trans (hb.mono HB12.out.size))
      clear hr hw hs hl hb FL2 FM S12 HB12 FB2
      go_wp2_with fail
      refine (equalF_any Ar Ab rs.length rs.length cr cb rs rs _ true rfl rfl (by omega) (by omega) RR.out RB.out (by simp [Hid])).mono ?_
      rintro e w14 ⟨rfl, kq, hkq⟩
      have hb : Below w13.heap.size w13 w14 := by rw [hkq]; exact below_drewN (Below.refl _ _) kq
      clear hkq
      have FL4 := Lib.hid (FL3.out.bel hb)
      have FM4 := Lib.hid (FM3.out.bel hb)
      have S14 := Lib.hid (S13.out.below hb S13.out.lt)
      have HB14 := Lib.hid (HB13.out.trans (hb.mono HB13.out.size))
      have hsum : (((ls.length : Int) + ms.length) == 0) = false := by rw [beq_eq_false_iff_ne]; omega
      clear hb FL3 FM3 S13 HB13 RR RB
      have XB := Lib.hid (Blk.new w14 58 #[.slice Al ls.length cl, .slice Am ms.length cm])
      have KX := Lib.hid ((Below.refl w14.heap.size w14).alloc (Nat.le_refl _) (.cells #[.slice Al ls.length cl, .slice Am ms.length cm] 58))
      have S15 := Lib.hid (S14.out.below KX.out S14.out.lt)
      have HB15 := Lib.hid (HB14.out.trans (KX.out.mono HB14.out.size))
      have RL := Lib.hid (RK.below FL4.out.r KX.out)
      have RM := Lib.hid (RK.below FM4.out.r KX.out)
      have WL := Lib.hid FL4.out.w
      have WM := Lib.hid FM4.out.w
      clear FL4 FM4 S14 HB14 KX
      go_wp2_with fail
      refine (concatF_any _ Al Am ls.length ms.length cl cm ls ms _ XB.out RL.out RM.out rfl rfl WL.out WM.out (by omega) (by omega)).mono ?_
      rintro e w16 ⟨Ac, cc, rfl, hr, hw, hb⟩
      have RC := Lib.hid hr
      have S16 := Lib.hid (S15.out.below hb S15.out.lt)
      have HB16 := Lib.hid (HB15.out.trans (hb.mono HB15.out.size))
      have LC : Hid ((ls ++ ms).length = ls.length + ms.length) := List.length_append
      clear hr hw hb S15 HB15 XB RL RM WL WM hsum
      go_wp2_with fail
      go_loopw [74] (fun i wr => ∃ k : Nat, i = .int .i64 k ∧ k ≤ ls.length + ms.length ∧ Hid (Below w16.heap.size w16 wr)) (fun i _ => ls.length + ms.length - (intOf i).toNat)
      case atStart => exact ⟨0, rfl, by omega, Below.refl _ _⟩
      case round =>
        obtain ⟨k, rfl, hk, Bl⟩ := hrel
        by_cases hlt : k < ls.length + ms.length
        · obtain ⟨f, hf⟩ := some_at (l := ls ++ ms) (k := k) (by have := LC.out; omega)
          obtain ⟨b, o, hA, hb, c0, c1, c2⟩ := RF.at (RK.below RC.out Bl.out) hf
          have fa := CH.out.a f (List.mem_of_getElem? hf)
          have KF := Lib.hid ((Below.refl wr.heap.size wr).alloc (Nat.le_refl _) (.cells #[.int .i64 f.k, .int .i64 f.a, .int .i64 f.b] 66))
          have BF := Lib.hid (Bl.out.trans (KF.out.mono Bl.out.size))
          have s1 := (S16.out.below BF.out S16.out.lt).cell 1
          subst hA
          have FA' := Lib.hid fa
          have hkI : (k : Int) < (ls.length : Int) + ms.length := by omega
          clear hf fa
          by_cases h2 : f.k = 2
          · have q2 : (f.k == 2) = true := by simpa using h2
            have q9 : (f.a != s.arm) = false := by rw [FA'.out (.inl h2)]; simp
            clear h2
            go_wp2_with fail
            go_roundw
            case rel => exact ⟨k + 1, by go_num, by omega, BF⟩
            case measure => simp [intOf]; omega
          · have q2 : (f.k == 2) = false := by simpa using h2
            clear h2
            by_cases h3 : f.k = 3
            · have q3 : (f.k == 3) = true := by simpa using h3
              have q9 : (f.a != s.arm) = false := by rw [FA'.out (.inr (.inl h3))]; simp
              clear h3
              go_wp2_with fail
              go_roundw
              case rel => exact ⟨k + 1, by go_num, by omega, BF⟩
              case measure => simp [intOf]; omega
            · have q3 : (f.k == 3) = false := by simpa using h3
              clear h3
              by_cases h6 : f.k = 6
              · have q6 : (f.k == 6) = true := by simpa using h6
                have q9 : (f.a != s.arm) = false := by rw [FA'.out (.inr (.inr h6))]; simp
                clear h6
                go_wp2_with fail
                go_roundw
                case rel => exact ⟨k + 1, by go_num, by omega, BF⟩
                case measure => simp [intOf]; omega
              · have q6 : (f.k == 6) = false := by simpa using h6
                clear h6
                go_wp2_with fail
                go_roundw
                case rel => exact ⟨k + 1, by go_num, by omega, BF⟩
                case measure => simp [intOf]; omega
        · go_wp2_with fail
          go_ret
          exact ⟨ret_bool (by simp; omega), HB16.out.trans (Bl.out.mono HB16.out.size)⟩
end Go.Proofs.Ytioofkhadjaldaa
