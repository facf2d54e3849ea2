/- The walk of gantkeep4.ActRound. -/
import Derived.Test.YtioofkhadjaldaaRndP
import Derived.Test.YtioofkhadjaldaaIns
import Derived.Test.YtioofkhadjaldaaActed
namespace Go.Proofs.Ytioofkhadjaldaa
open Go.RowKit
set_option linter.unusedVariables false
set_option maxRecDepth 100000

/-- The world's box and its rows. -/
structure GW (h : Nat) (w : World) (x : AW) (gt g1 g2 g3 n1 n3 d1 d2 d3 : Nat) : Prop where
  T : Blk w gt 25 #[.int .i64 x.slots, .slice (some ⟨g1, 0, none⟩) n1 d1, .slice (some ⟨g2, 0, none⟩) n1 d2, .slice (some ⟨g3, 0, none⟩) n3 d3]
  O : OW h w x g1 g2 g3 n1 n3 d1 d2 d3
theorem GW.bel {h : Nat} {w w' : World} {x : AW} {gt g1 g2 g3 n1 n3 d1 d2 d3 : Nat} (g : GW h w x gt g1 g2 g3 n1 n3 d1 d2 d3) (hb : Below w.heap.size w w') : GW h w' x gt g1 g2 g3 n1 n3 d1 d2 d3 := ⟨g.T.below hb g.T.lt, g.O.bel hb⟩

theorem rs2 {w : World} {g : Nat} {sa sb : St} (h : Blk w g 39 (sa.cells ++ sb.cells).toArray) : RS w (some ⟨g, 0, none⟩) [sa, sb] := by
  intro _
  refine ⟨g, 0, rfl, h.lt, fun j x i v hj hv => ?_⟩
  rw [h.cell]
  have e : (flat St.cells [sa, sb]) = sa.cells ++ sb.cells := by simp [flat]
  have h1 := flat_at (enc := St.cells) (k := 5) St.len hj hv
  rw [e] at h1
  simp only [List.getElem?_toArray, Nat.zero_add]
  exact h1
theorem run_prefix {x y z : AW} {ss : List St} {k : Nat} {s : St} (h : runL x ss = some y) (hz : runL x (ss.take k) = some z) (hs : ss[k]? = some s) : canP z s = 0 := by
  have e : ss = ss.take k ++ s :: ss.drop (k + 1) := by
    obtain ⟨hk, rfl⟩ := List.getElem?_eq_some_iff.1 hs
    rw [List.getElem_cons_drop hk, List.take_append_drop]
  rw [e, runL_append, hz] at h
  simp only [Option.bind_some] at h
  rw [runL_cons] at h
  split at h
  · assumption
  · cases h
section
variable {h : Nat} {w : World} {x : AW} {gt g1 g2 g3 n1 n3 d1 d2 d3 : Nat}
theorem GW.far (g : GW h w x gt g1 g2 g3 n1 n3 d1 d2 d3) {b : Nat} (h0 : gt ≠ b) (h1 : g1 ≠ b) (h2 : g2 ≠ b) (h3 : g3 ≠ b) (k : Nat) (u : Value) : GW h (w.setCell ⟨b, k, none⟩ u) x gt g1 g2 g3 n1 n3 d1 d2 d3 :=
  ⟨g.T.far (p := ⟨b, k, none⟩) h0 u, ⟨own_far g.O.o1 ⟨b, k, none⟩ h1 u, own_far g.O.o2 ⟨b, k, none⟩ h2 u, own_far g.O.o3 ⟨b, k, none⟩ h3 u, g.O.ne⟩⟩
theorem GW.seenset (g : GW h w x gt g1 g2 g3 n1 n3 d1 d2 d3) (k : Nat) (v : Bool) : GW h (w.setCell ⟨g2, k, none⟩ (.bool v)) { x with seen := x.seen.set k v } gt g1 g2 g3 n1 n3 d1 d2 d3 :=
  ⟨g.T.far (p := ⟨g2, k, none⟩) (Ne.symm (blk_ne g.O.o2 g.T (by decide))) _,
    ⟨own_far g.O.o1 ⟨g2, k, none⟩ (own_ne g.O.o1 g.O.o2 (by decide)) _, by rw [← set_map]; exact (g.O.o2.stored k _).1, own_far g.O.o3 ⟨g2, k, none⟩ (own_ne g.O.o3 g.O.o2 (by decide)) _, g.O.ne⟩⟩
theorem GW.lts (g : GW h w x gt g1 g2 g3 n1 n3 d1 d2 d3) : gt < w.heap.size ∧ g1 < w.heap.size ∧ g2 < w.heap.size ∧ g3 < w.heap.size := ⟨g.T.lt, (g.O.o1.lt g1 rfl).2, (g.O.o2.lt g2 rfl).2, (g.O.o3.lt g3 rfl).2⟩
end
set_option maxHeartbeats 2000000 in
theorem ActRound_any (A B : Option Addr) (n c m d : Nat) (xs ys : List Int) (w : World) (hi : IntArg w A n c xs) (hj : IntArg w B m d ys) :
    Calls Try.prog 3 #[.slice A n c, .slice B m d] w fun e w' => e = .returned (.bool true) ∧ Below w.heap.size w w' := by
  have HI := Lib.hid hi
  have HJ := Lib.hid hj
  clear hi hj
  go_enter Try.func3, Try.ntmps3
  go_wp2_with fail
  refine (Small_any A n c xs _ HI.out).mono ?_
  rintro e w1 ⟨na, np, ns, B1, B2, B3, b1, b2, b3, rfl, hna, hnp, hns, hw1, hb1⟩
  have HB1 := Lib.hid hb1
  clear hw1 hb1
  go_wp2_with fail
  refine (World_any na np ns B1 B2 B3 b1 b2 b3 B m d ys _ (HJ.out.below HB1.out) hna hnp hns).mono ?_
  rintro e w2 ⟨x, g1, g2, g3, d1, d2, d3, rfl, ho, hv, hsl, hb2⟩
  have V := Lib.hid hv
  have HB2 := Lib.hid (HB1.out.trans (hb2.mono HB1.out.size))
  have O2 := Lib.hid (ho.mono HB1.out.size)
  have na1 := hna.1
  have na2 := hna.2
  have np1 := hnp.1
  have np2 := hnp.2
  clear ho hv hsl hb2 hna hnp hns HB1 HI HJ
  have KB := Lib.hid ((Below.refl w2.heap.size w2).alloc (Nat.le_refl _) (.cells #[.int .i64 x.slots, .slice (some ⟨g1, 0, none⟩) np d1, .slice (some ⟨g2, 0, none⟩) np d2, .slice (some ⟨g3, 0, none⟩) na d3] 25))
  have G3 : Hid (GW w.heap.size (w2.alloc (.cells #[.int .i64 x.slots, .slice (some ⟨g1, 0, none⟩) np d1, .slice (some ⟨g2, 0, none⟩) np d2, .slice (some ⟨g3, 0, none⟩) na d3] 25)) x w2.heap.size g1 g2 g3 np na d1 d2 d3) := ⟨Blk.new _ _ _, O2.out.bel KB.out⟩
  have HB3 := Lib.hid (HB2.out.trans (KB.out.mono HB2.out.size))
  clear KB O2 HB2
  go_wp2_with fail
  obtain ⟨gt, hgt⟩ : ∃ gt, gt = w2.heap.size := ⟨_, rfl⟩
  rw [← hgt] at G3
  generalize hw3 : w2.alloc (.cells #[.int .i64 x.slots, .slice (some ⟨g1, 0, none⟩) np d1, .slice (some ⟨g2, 0, none⟩) np d2, .slice (some ⟨g3, 0, none⟩) na d3] 25) = w3 at G3 HB3 ⊢
  simp only [← hgt]
  clear hw3 hgt
  go_loopw [22] (fun i wr => ∃ k : Nat, i = .int .i64 k ∧ k ≤ np ∧ Hid (GW w.heap.size wr x gt g1 g2 g3 np na d1 d2 d3) ∧ Hid (Below w.heap.size w wr)) (fun i _ => np - (intOf i).toNat)
  case atStart => exact ⟨0, rfl, by omega, G3, HB3⟩
  case round =>
    clear G3 HB3
    obtain ⟨p, rfl, hp, GG, HB⟩ := hrel
    have l1 : x.place.length = np := (GG.out.O.rw4 (by omega) (by omega)).l1
    have l2 : x.seen.length = np := (GG.out.O.rw4 (by omega) (by omega)).l2
    have l3 : x.spot.length = na := (GG.out.O.rw4 (by omega) (by omega)).l3
    have L1 := Lib.hid l1
    have L2 := Lib.hid l2
    have L3 := Lib.hid l3
    by_cases hlt : p < np
    · obtain ⟨q, hq⟩ := some_at (l := x.place) (k := p) (by omega)
      obtain ⟨sb, hsb⟩ := some_at (l := x.seen) (k := p) (by omega)
      have c1 : wr.cell? ⟨g1, p, none⟩ = some (.int .i64 q) := by rw [GG.out.O.o1.cellAt p (by omega)]; simp [hq]
      have HQ := Lib.hid hq
      have HSB := Lib.hid hsb
      clear hq hsb l1 l2 l3
      by_cases hq0 : q < 0
      · go_wp2_with fail
        go_roundw
        case rel => exact ⟨p + 1, by go_num, by omega, GG, HB⟩
        case measure => simp [intOf]; omega
      · have t3 := GG.out.T.cell 3
        go_wp2_with fail
        clear t3 c1
        obtain ⟨wo, hwo⟩ : ∃ wo : World, wo = wr := ⟨_, rfl⟩
        subst hwo
        go_loopw [32] (fun i wr => ∃ k : Nat, i = .int .i64 k ∧ k ≤ na ∧ Hid (GW w.heap.size wr x gt g1 g2 g3 np na d1 d2 d3) ∧ Hid (Below w.heap.size w wr)) (fun i _ => na - (intOf i).toNat)
        case atStart => exact ⟨0, rfl, by omega, GG, HB⟩
        case round =>
          clear GG HB
          obtain ⟨a, rfl, ha, GG, HB⟩ := hrel
          by_cases hlt2 : a < na
          · obtain ⟨r, hr⟩ := some_at (l := x.spot) (k := a) (by have := L3.out; omega)
            have c3 : wr.cell? ⟨g3, a, none⟩ = some (.int .i64 r) := by rw [GG.out.O.o3.cellAt a (by omega)]; simp [hr]
            have HR := Lib.hid hr
            obtain ⟨t0, t1, t2, t3⟩ := blk4 GG.out.T
            clear hr
            by_cases hrq : r = q
            · subst hrq
              have hrr : (r != r) = false := by simp
              obtain ⟨hh, hhe⟩ : ∃ hh, holdsP x a = hh := ⟨_, rfl⟩
              have HH := Lib.hid hhe
              have R4 := Lib.hid (GG.out.O.rw4 (by omega) (by omega))
              clear hhe
              by_cases hh0 : 0 ≤ hh
              · go_wp2_with (go_at_call 9; refine (Holds_any x _ _ _ np np na d1 d2 d3 _ R4.out a hh (by omega) (by omega) HH).mono ?_; rintro e w4 ⟨rfl, hb4⟩; have G4 := Lib.hid (GG.out.bel hb4); have B4 := Lib.hid (HB.out.trans (hb4.mono HB.out.size)); clear hb4)
                go_roundw
                case rel => exact ⟨a + 1, by go_num, by omega, G4, B4⟩
                case measure => simp [intOf]; omega
              · go_upto_if 58 with (go_at_call 9; refine (Holds_any x _ _ _ np np na d1 d2 d3 _ R4.out a hh (by omega) (by omega) HH).mono ?_; rintro e w4 ⟨rfl, hb4⟩; have G4 := Lib.hid (GG.out.bel hb4); have B4 := Lib.hid (HB.out.trans (hb4.mono HB.out.size)); clear hb4; have KS := Lib.hid ((Below.refl w4.heap.size w4).alloc (Nat.le_refl _) (.cells #[.int .i64 1, .int .i64 a, .int .i64 p, .int .i64 (-1), .int .i64 0, .int .i64 2, .int .i64 a, .int .i64 (-1), .int .i64 r, .int .i64 0] 39)); have G5 := Lib.hid (G4.out.bel KS.out); have B5 := Lib.hid (B4.out.trans (KS.out.mono B4.out.size)); have t2' := G5.out.T.cell 2; have c2' : (w4.alloc (.cells #[.int .i64 1, .int .i64 a, .int .i64 p, .int .i64 (-1), .int .i64 0, .int .i64 2, .int .i64 a, .int .i64 (-1), .int .i64 r, .int .i64 0] 39)).cell? ⟨g2, p, none⟩ = some (.bool sb) := (by rw [G5.out.O.o2.cellAt p (by omega)]; simp [HSB.out]); clear KS)
                have ST5 : Hid (Blk (w4.alloc (.cells #[.int .i64 1, .int .i64 a, .int .i64 p, .int .i64 (-1), .int .i64 0, .int .i64 2, .int .i64 a, .int .i64 (-1), .int .i64 r, .int .i64 0] 39)) w4.heap.size 39 ((takeS a p).cells ++ (putS a r).cells).toArray) := Blk.new _ _ _
                have NH : Hid (¬ 0 ≤ holdsP x a) := by unfold Hid; rw [HH.out]; omega
                clear t0 t1 t2 t3 c3 R4 GG HB
                go_cut [10] (fun s10 wx => ∃ (gs ms cs : Nat) (ss : List St), s10 = .slice (some ⟨gs, 0, none⟩) ms cs ∧ ms ≤ 3 ∧ Hid (ss.length = ms) ∧ Hid (RS wx (some ⟨gs, 0, none⟩) ss) ∧ Hid (runL x ss = some { x with seen := x.seen.set p false }) ∧ Hid (GW w.heap.size wx x gt g1 g2 g3 np na d1 d2 d3) ∧ Hid (Below w.heap.size w wx))
                case first =>
                  cases sb with
                  | true =>
                    go_wp2_with fail
                    go_meet
                    exact ⟨_, 2, 2, [takeS a p, putS a r], rfl, by omega, rfl, rs2 ST5.out, rnd_two V.out HQ.out hq0 HR.out (Int.not_le.2 NH.out) HSB.out, G5, B5⟩
                  | false =>
                    have LK : Hid (Blk ((w4.alloc (.cells #[.int .i64 1, .int .i64 a, .int .i64 p, .int .i64 (-1), .int .i64 0, .int .i64 2, .int .i64 a, .int .i64 (-1), .int .i64 r, .int .i64 0] 39)).alloc (.cells #[.int .i64 3, .int .i64 a, .int .i64 p, .int .i64 (-1), .int .i64 0] 39)) (w4.heap.size + 1) 39 (lookS a p).cells.toArray) := blk_two _ _ _ _
                    have ST6 := Lib.hid (ST5.out.alloc (.cells #[.int .i64 3, .int .i64 a, .int .i64 p, .int .i64 (-1), .int .i64 0] 39))
                    have KC := Lib.hid ((Below.refl (w4.alloc (.cells #[.int .i64 1, .int .i64 a, .int .i64 p, .int .i64 (-1), .int .i64 0, .int .i64 2, .int .i64 a, .int .i64 (-1), .int .i64 r, .int .i64 0] 39)).heap.size (w4.alloc (.cells #[.int .i64 1, .int .i64 a, .int .i64 p, .int .i64 (-1), .int .i64 0, .int .i64 2, .int .i64 a, .int .i64 (-1), .int .i64 r, .int .i64 0] 39))).alloc (Nat.le_refl _) (.cells #[.int .i64 3, .int .i64 a, .int .i64 p, .int .i64 (-1), .int .i64 0] 39))
                    have G5' := Lib.hid (G5.out.bel KC.out)
                    have B5' := Lib.hid (B5.out.trans (KC.out.mono B5.out.size))
                    clear KC
                    go_wp2_with fail
                    refine (Insert3 w4.heap.size (w4.heap.size + 1) (lookS a p) (takeS a p) (putS a r) _ ST6.out LK.out).mono ?_
                    rintro e w6 ⟨gi, ci, rfl, hrs, hci, hb6⟩
                    have G6 := Lib.hid (G5'.out.bel hb6)
                    have B6 := Lib.hid (B5'.out.trans (hb6.mono B5'.out.size))
                    have RS6 := Lib.hid hrs
                    clear hrs hb6
                    go_wp2_with fail
                    go_meet
                    exact ⟨_, 3, _, [lookS a p, takeS a p, putS a r], rfl, by omega, rfl, RS6.out, rnd_three V.out HQ.out hq0 HR.out (Int.not_le.2 NH.out) HSB.out, G6, B6⟩
                case rest =>
                  clear G5 B5 G4 B4 ST5 t2' c2'
                  obtain ⟨gs, ms, cs, ss, rfl, hms, HL, HRS, HRUN, G5, B5⟩ := hcut
                  obtain ⟨t0, t1, t2, t3⟩ := blk4 G5.out.T
                  have R5 := Lib.hid (G5.out.O.rw4 (by omega) (by omega))
                  go_wp2_with fail
                  refine (Run_any x _ _ _ (some ⟨gs, 0, none⟩) np na d1 d2 d3 ms cs ss _ R5.out V.out HRS.out HL.out (by omega) (by omega) (by omega)).mono ?_
                  rintro e w7 ⟨hb7, hpost⟩
                  rcases hpost with ⟨y, j1, j2, j3, e1, e2, e3, hrun, ho7, rfl⟩ | ⟨k, z, s, hz, hs, hne, _⟩
                  · have hy : y = { x with seen := x.seen.set p false } := by
                      have h := HRUN.out
                      rw [hrun] at h
                      injection h
                    subst hy
                    rw [HL.out]
                    have G7 := Lib.hid (G5.out.bel hb7)
                    have B7 := Lib.hid (B5.out.trans (hb7.mono B5.out.size))
                    have O7 := Lib.hid (ho7.mono (Nat.le_trans B5.out.size (Nat.le_refl _)))
                    have KN := Lib.hid ((Below.refl w7.heap.size w7).alloc (Nat.le_refl _) (.cells #[.int .i64 x.slots, .slice (some ⟨j1, 0, none⟩) np e1, .slice (some ⟨j2, 0, none⟩) np e2, .slice (some ⟨j3, 0, none⟩) na e3] 25))
                    have G8 := Lib.hid (G7.out.bel KN.out)
                    have B8 := Lib.hid (B7.out.trans (KN.out.mono B7.out.size))
                    have N8 : Hid (GW w.heap.size (w7.alloc (.cells #[.int .i64 x.slots, .slice (some ⟨j1, 0, none⟩) np e1, .slice (some ⟨j2, 0, none⟩) np e2, .slice (some ⟨j3, 0, none⟩) na e3] 25)) { x with seen := x.seen.set p false } w7.heap.size j1 j2 j3 np na e1 e2 e3) := ⟨Blk.new _ _ _, O7.out.bel KN.out⟩
                    clear hb7 ho7 hrun t0 t1 t2 t3 KN O7 G7 B7 R5 G5 B5
                    obtain ⟨t0, t1, t2, t3⟩ := blk4 G8.out.T
                    have R8 := Lib.hid (G8.out.O.rw4 (by omega) (by omega))
                    go_wp2_with fail
                    obtain ⟨gn, hgn⟩ : ∃ gn, gn = w7.heap.size := ⟨_, rfl⟩
                    rw [← hgn] at N8
                    generalize hw8 : w7.alloc (.cells #[.int .i64 x.slots, .slice (some ⟨j1, 0, none⟩) np e1, .slice (some ⟨j2, 0, none⟩) np e2, .slice (some ⟨j3, 0, none⟩) na e3] 25) = w8 at G8 B8 N8 R8 t0 t1 t2 t3 ⊢
                    simp only [← hgn]
                    clear hw8 hgn
                    refine (Copy_any x _ _ _ np na d1 d2 d3 _ R8.out (by omega) (by omega)).mono ?_
                    rintro e w9 ⟨i1, i2, i3, f1, f2, f3, rfl, ho9, hb9⟩
                    have O9 := Lib.hid (ho9.mono (Nat.le_trans B8.out.size (Nat.le_refl _)))
                    have G9 := Lib.hid (G8.out.bel hb9)
                    have N9 := Lib.hid (N8.out.bel hb9)
                    have B9 := Lib.hid (B8.out.trans (hb9.mono B8.out.size))
                    have KN := Lib.hid ((Below.refl w9.heap.size w9).alloc (Nat.le_refl _) (.cells #[.int .i64 x.slots, .slice (some ⟨i1, 0, none⟩) np f1, .slice (some ⟨i2, 0, none⟩) np f2, .slice (some ⟨i3, 0, none⟩) na f3] 25))
                    have G10 := Lib.hid (G9.out.bel KN.out)
                    have N10 := Lib.hid (N9.out.bel KN.out)
                    have B10 := Lib.hid (B9.out.trans (KN.out.mono B9.out.size))
                    have W10 : Hid (GW w.heap.size (w9.alloc (.cells #[.int .i64 x.slots, .slice (some ⟨i1, 0, none⟩) np f1, .slice (some ⟨i2, 0, none⟩) np f2, .slice (some ⟨i3, 0, none⟩) na f3] 25)) x w9.heap.size i1 i2 i3 np na f1 f2 f3) := ⟨Blk.new _ _ _, O9.out.bel KN.out⟩
                    have hfr := (ho9.o2.lt i2 rfl).1
                    obtain ⟨l0, l1, l2, l3⟩ := G8.out.lts
                    obtain ⟨m0, m1, m2, m3⟩ := N8.out.lts
                    have G11 := Lib.hid (G10.out.far (b := i2) (by omega) (by omega) (by omega) (by omega) p (.bool false))
                    have N11 := Lib.hid (N10.out.far (b := i2) (by omega) (by omega) (by omega) (by omega) p (.bool false))
                    have W11 := Lib.hid (W10.out.seenset p false)
                    have B11 := Lib.hid (B10.out.setCell (p := ⟨i2, p, none⟩) (W10.out.O.o2.lt i2 rfl).1 (.bool false))
                    have sc := W10.out.O.o2.cellAt p (by omega)
                    rw [List.getElem?_map, HSB.out] at sc
                    have sf := W10.out.O.o2.frozenAt p
                    clear ho9 hb9 O9 G9 N9 B9 KN G8 B8 N8 R8 t0 t1 t2 t3 hfr l0 l1 l2 l3 m0 m1 m2 m3
                    obtain ⟨t0, t1, t2, t3⟩ := blk4 G10.out.T
                    obtain ⟨u0, u1, u2, u3⟩ := blk4 N11.out.T
                    obtain ⟨v0, v1, v2, v3⟩ := blk4 W11.out.T
                    have RN := Lib.hid (N11.out.O.rw4 (by omega) (by omega))
                    have RWW := Lib.hid (W11.out.O.rw4 (by omega) (by omega))
                    go_wp2_with (go_at_call 13; refine (Same_any { x with seen := x.seen.set p false } { x with seen := x.seen.set p false } _ _ _ _ _ _ np na e1 e2 e3 np na f1 f2 f3 _ RN.out RWW.out (by omega) (by omega) (by omega) (by omega) true (by simp [Hid])).mono ?_; rintro e w12 ⟨rfl, hb12⟩; have G12 := Lib.hid (G11.out.bel hb12); have B12 := Lib.hid (B11.out.trans (hb12.mono B11.out.size)); clear hb12)
                    go_roundw
                    case rel => exact ⟨a + 1, by go_num, by omega, G12, B12⟩
                    case measure => simp [intOf]; omega
                  · exact absurd (run_prefix HRUN.out hz hs) hne
            · have hrr : (r != q) = true := by simpa using hrq
              go_wp2_with fail
              go_roundw
              case rel => exact ⟨a + 1, by go_num, by omega, GG, HB⟩
              case measure => simp [intOf]; omega
          · go_wp2_with fail
            go_roundw
            case rel => exact ⟨p + 1, by go_num, by omega, GG, HB⟩
            case measure => simp [intOf]; omega
    · clear l1 l2 l3
      go_wp2_with (go_at_call 14; refine (acted_any _).mono ?_; rintro e w9 ⟨rfl, hb9⟩; have B9 := Lib.hid (HB.out.trans (hb9.mono HB.out.size)); clear hb9)
      go_ret
      exact ⟨rfl, B9.out⟩
end Go.Proofs.Ytioofkhadjaldaa
