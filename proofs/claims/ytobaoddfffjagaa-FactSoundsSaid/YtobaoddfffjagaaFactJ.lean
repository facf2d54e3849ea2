/- The walk of gantkeep4.FactSounds. -/
import Derived.Test.YtobaoddfffjagaaFactI
namespace Go.Proofs.Ytobaoddfffjagaa
open Go.RowKit
set_option linter.unusedVariables false

theorem SoundP.sub {fs gs : List Fct} (h : SoundP fs) (hs : ∀ f ∈ gs, f ∈ fs) : SoundP gs := fun f hf g hg => h f (hs f hf) g (hs g hg)

set_option maxHeartbeats 8000000 in
theorem FactSounds_any (A0 A1 : Option Addr) (n0 c0 n1 c1 : Nat) (z0 z1 : List Int) (w : World) (h0 : IntArg w A0 n0 c0 z0) (h1 : IntArg w A1 n1 c1 z1) :
    Calls Try.prog 3 #[.slice A0 n0 c0, .slice A1 n1 c1] w fun e w' => e = .returned (.bool true) ∧ Below w.heap.size w w' := by
  have H1 := Lib.hid h1
  clear h1
  go_enter Try.func3, Try.ntmps3
  go_wp2_with fail
  refine (Facts_any A0 n0 c0 z0 _ h0).mono ?_
  rintro e w1 ⟨v1, m1, fs1, rfl, hm1, hl1, ho1, hb1⟩
  obtain ⟨B1', d1, rfl⟩ := own_slice ho1
  have R1 : Hid (RF w1 B1' fs1) := RK.own Fct.len ho1 hl1
  have L1 := Lib.hid hl1
  have B1 := Lib.hid hb1
  have Z1 := Lib.hid B1.out.size
  clear ho1 hb1 hl1 h0
  go_wp2_with fail
  refine (Of_any B1' m1 d1 fs1 _ R1.out L1.out (by omega)).mono ?_
  rintro e w2 ⟨Aa, ca, la1, rfl, hr, hw, hs, hl, hb⟩
  have Ra := Lib.hid hr
  have Wa := Lib.hid hw
  have Sa := Lib.hid hs
  have la : la1.length ≤ 9 := by omega
  have B2 := Lib.hid (B1.out.trans (hb.mono Z1.out))
  have Z2 := Lib.hid B2.out.size
  clear hr hw hs hl hb R1 L1 B1 Z1
  go_wp2_with fail
  refine (Facts_any A1 n1 c1 z1 _ (H1.out.below B2.out)).mono ?_
  rintro e w3 ⟨v3, m3, fs3, rfl, hm3, hl3, ho3, hb3⟩
  obtain ⟨B3', d3, rfl⟩ := own_slice ho3
  have R3 : Hid (RF w3 B3' fs3) := RK.own Fct.len ho3 hl3
  have L3 := Lib.hid hl3
  have Ra3 : Hid (RF w3 Aa la1) := Ra.out.below hb3
  have B3 := Lib.hid (B2.out.trans (hb3.mono Z2.out))
  have Z3 := Lib.hid B3.out.size
  clear ho3 hb3 hl3 Ra B2 Z2
  go_wp2_with fail
  refine (Of_any B3' m3 d3 fs3 _ R3.out L3.out (by omega)).mono ?_
  rintro e w4 ⟨Ab, cb, bs, rfl, hr, hw, hs, hl, hb⟩
  have Rb := Lib.hid hr
  have Wb := Lib.hid hw
  have Sb := Lib.hid hs
  have Ra : Hid (RF w4 Aa la1) := Ra3.out.below hb
  have lb : bs.length ≤ 9 := by omega
  have B4 := Lib.hid (B3.out.trans (hb.mono Z3.out))
  have Z4 := Lib.hid B4.out.size
  clear hr hw hs hl hb R3 L3 B3 Z3 Ra3
  go_wp2_with fail
  go_loopw [19] (fun i wr => ∃ k : Nat, i = .int .i64 k ∧ k ≤ la1.length ∧ Hid (Below w4.heap.size w4 wr)) (fun i _ => la1.length - (intOf i).toNat)
  case atStart => exact ⟨0, rfl, by omega, Below.refl _ _⟩
  case round =>
    obtain ⟨k, rfl, hk, Bl⟩ := hrel
    have Zl := Lib.hid Bl.out.size
    by_cases hlt : k < la1.length
    · obtain ⟨x, hx⟩ := some_at hlt
      obtain ⟨b, o, rfl, hb, p0, p1, p2⟩ := RF.at (Ra.out.below Bl.out) hx
      have B5 := Lib.hid (Bl.out.alloc Zl.out (.cells #[.int .i64 x.k, .int .i64 x.a, .int .i64 x.b] 27))
      have X5 := Lib.hid (Blk.new wr 27 #[.int .i64 x.k, .int .i64 x.a, .int .i64 x.b])
      have Z5 := Lib.hid B5.out.size
      clear hx
      go_wp2_with fail
      refine (Clash_any x x _ false (by simp [Hid, clash_self])).mono ?_
      rintro e w6 ⟨rfl, hb6⟩
      have B6 := Lib.hid (B5.out.trans (hb6.mono Z5.out))
      have X6 := Lib.hid (X5.out.below hb6 X5.out.lt)
      have Z6 := Lib.hid B6.out.size
      clear hb6
      go_wp2_with fail
      generalize hg : wr.heap.size = gx at X6
      clear hg
      go_loopw [28] (fun i wq => ∃ j : Nat, i = .int .i64 j ∧ j ≤ bs.length ∧ Hid (Blk wq gx 27 #[.int .i64 x.k, .int .i64 x.a, .int .i64 x.b]) ∧ Hid (Below w4.heap.size w4 wq)) (fun i _ => bs.length - (intOf i).toNat)
      case atStart => exact ⟨0, rfl, by omega, X6, B6⟩
      case round =>
        obtain ⟨j, rfl, hj, Xq, Bq⟩ := hrel
        have Zq := Lib.hid Bq.out.size
        by_cases hltj : j < bs.length
        · obtain ⟨y, hy⟩ := some_at hltj
          obtain ⟨b', o', rfl, hb', q0, q1, q2⟩ := RF.at (Rb.out.below Bq.out) hy
          have B7 := Lib.hid (Bq.out.alloc Zq.out (.cells #[.int .i64 y.k, .int .i64 y.a, .int .i64 y.b] 27))
          have X7 := Lib.hid (Xq.out.alloc (.cells #[.int .i64 y.k, .int .i64 y.a, .int .i64 y.b] 27))
          have Y7 := Lib.hid (Blk.new wr 27 #[.int .i64 y.k, .int .i64 y.a, .int .i64 y.b])
          obtain ⟨r, hr⟩ : ∃ r, r = decide (clash x y) := ⟨_, rfl⟩
          have H1 := Lib.hid hr
          have H2 : Hid (r = decide (clash y x)) := by unfold Hid; rw [hr]; exact decide_eq_decide.2 (clash_symm x y)
          have hrr : (r != r) = false := by simp
          clear hy hr
          go_wp2_with fail
          generalize hw7 : wr.alloc (.cells #[.int .i64 y.k, .int .i64 y.a, .int .i64 y.b] 27) = w7 at B7 X7 Y7 ⊢
          clear hw7
          have x0 := fun s : Ext w7 => s.cell (X7.out.cell 0)
          have x1 := fun s : Ext w7 => s.cell (X7.out.cell 1)
          have x2 := fun s : Ext w7 => s.cell (X7.out.cell 2)
          have y0 := fun s : Ext w7 => s.cell (Y7.out.cell 0)
          have y1 := fun s : Ext w7 => s.cell (Y7.out.cell 1)
          have y2 := fun s : Ext w7 => s.cell (Y7.out.cell 2)
          refine wp_region_ext (by kernel_rfl) (by kernel_rfl) ?_
          repeat (go_big_quiet_step (fail))
          go_big_quiet_step ((go_at_call 7; refine Calls.ext (Clash_any x y _ r H1)))
          repeat (go_big_quiet_step (fail))
          go_big_quiet_step ((go_at_call 7; refine Calls.ext (Clash_any y x _ r H2)))
          repeat (go_big_quiet_step (fail))
          refine wpQuiet_nil ?_
          intro _ hw'
          obtain ⟨s, rfl⟩ := hw'
          go_wp2_with fail
          go_roundw
          case rel => exact ⟨j + 1, by go_num, hltj, X7.out.below s.h X7.out.lt, keep_below B7.out (Nat.le_refl _) s.h⟩
          case measure => simp [intOf]; omega
        · go_wp2_with fail
          go_roundw
          case rel => exact ⟨k + 1, by go_num, hlt, Bq⟩
          case measure => simp [intOf]; omega
    · go_wp2_with fail
      refine (facted_any _).mono ?_
      rintro e w5 ⟨rfl, hb⟩
      have B5 := Lib.hid (Bl.out.trans (hb.mono Zl.out))
      have Z5 := Lib.hid B5.out.size
      clear hb
      go_wp2_with fail
      refine (Join_any Aa Ab la1.length bs.length ca cb la1 bs _ (Ra.out.below B5.out) (Rb.out.below B5.out) rfl rfl Wa.out Wb.out (by omega)).mono ?_
      rintro e w6 ⟨Aj, cj, js, rfl, hr, hw, hs, hl, hb⟩
      have Rj := Lib.hid hr
      have Wj := Lib.hid hw
      have Sj := Lib.hid hs
      have B6 := Lib.hid (B5.out.trans (hb.mono Z5.out))
      have Z6 := Lib.hid B6.out.size
      clear hr hw hs hb
      go_wp2_with fail
      refine (Sound_any Aj js.length cj js _ Rj.out rfl (by omega) Wj.out.le).mono ?_
      rintro e w7 ⟨⟨r1, rfl, hs1⟩, hb⟩
      have B7 := Lib.hid (B6.out.trans (hb.mono Z6.out))
      have Z7 := Lib.hid B7.out.size
      clear hb
      cases r1 with
      | false =>
        go_wp2_with fail
        go_ret
        exact ⟨rfl, B4.out.trans (B7.out.mono Z4.out)⟩
      | true =>
        have SJ := Lib.hid (hs1.1 rfl)
        have Pa : Hid (SoundP la1) := SJ.out.sub fun f hf => (Sj.out.2 f).2 ⟨.inl hf, ((Sa.out.2 f).1 hf).2⟩
        have Pb : Hid (SoundP bs) := SJ.out.sub fun f hf => (Sj.out.2 f).2 ⟨.inr hf, ((Sb.out.2 f).1 hf).2⟩
        clear hs1
        go_wp2_with fail
        refine (Sound_any Aa la1.length ca la1 _ (Ra.out.below B7.out) rfl (by omega) Wa.out.le).mono ?_
        rintro e w8 ⟨⟨r2, rfl, hs2⟩, hb⟩
        obtain rfl : r2 = true := hs2.2 Pa.out
        have B8 := Lib.hid (B7.out.trans (hb.mono Z7.out))
        have Z8 := Lib.hid B8.out.size
        clear hb hs2
        go_wp2_with fail
        refine (Meet_any Aa Ab la1.length bs.length ca cb la1 bs _ (Ra.out.below B8.out) (Rb.out.below B8.out) rfl rfl (by omega) (by omega)).mono ?_
        rintro e w9 ⟨Am, cm, ms, rfl, hr, hw, hs, hl9, hb⟩
        have Rm := Lib.hid hr
        have Wm := Lib.hid hw
        have Pm : Hid (SoundP ms) := Pa.out.sub fun f hf => ((hs.2 f).1 hf).1.1
        have B9 := Lib.hid (B8.out.trans (hb.mono Z8.out))
        have Z9 := Lib.hid B9.out.size
        clear hr hw hs hb
        go_wp2_with fail
        refine (Sound_any Am ms.length cm ms _ Rm.out rfl (by omega) Wm.out.le).mono ?_
        rintro e w10 ⟨⟨r3, rfl, hs3⟩, hb⟩
        obtain rfl : r3 = true := hs3.2 Pm.out
        have B10 := Lib.hid (B9.out.trans (hb.mono Z9.out))
        have Z10 := Lib.hid B10.out.size
        clear hb hs3
        go_wp2_with fail
        refine (Minus_any Ab Aa bs.length la1.length cb ca bs la1 _ (Rb.out.below B10.out) (Ra.out.below B10.out) rfl rfl (by omega) (by omega)).mono ?_
        rintro e w11 ⟨An, cn, ns, rfl, hr, hw, hs, hl11, hb⟩
        have Rn := Lib.hid hr
        have Wn := Lib.hid hw
        have Pn : Hid (SoundP ns) := Pb.out.sub fun f hf => ((hs.2 f).1 hf).1.1
        have B11 := Lib.hid (B10.out.trans (hb.mono Z10.out))
        have Z11 := Lib.hid B11.out.size
        clear hr hw hs hb
        go_wp2_with fail
        refine (Sound_any An ns.length cn ns _ Rn.out rfl (by omega) Wn.out.le).mono ?_
        rintro e w12 ⟨⟨r4, rfl, hs4⟩, hb⟩
        obtain rfl : r4 = true := hs4.2 Pn.out
        have B12 := Lib.hid (B11.out.trans (hb.mono Z11.out))
        clear hb hs4
        go_wp2_with fail
        go_ret
        exact ⟨rfl, B4.out.trans (B12.out.mono Z4.out)⟩
end Go.Proofs.Ytobaoddfffjagaa
