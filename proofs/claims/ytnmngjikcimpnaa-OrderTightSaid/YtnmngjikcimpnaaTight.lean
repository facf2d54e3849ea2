/- The walk of gantkeep4.OrderTight. -/
import Derived.Test.YtnmngjikcimpnaaOrdC
import Derived.Test.YtnmngjikcimpnaaBel
import Derived.Test.YtnmngjikcimpnaaOrdered
namespace Go.Proofs.Ytnmngjikcimpnaa
open Go.RowKit
set_option linter.unusedVariables false

set_option maxHeartbeats 2000000 in
set_option maxRecDepth 100000 in
theorem tight_ok (A0 : Option Addr) (n0 c0 : Nat) (z0 : List Int) (A1 : Option Addr) (n1 c1 : Nat) (z1 : List Int) (w : World) (h0 : IntArg w A0 n0 c0 z0) (h1 : IntArg w A1 n1 c1 z1) :
    Calls Try.prog 3 #[.slice A0 n0 c0, .slice A1 n1 c1] w fun e w' => e = .returned (.bool true) ∧ Below w.heap.size w w' := by
  have I0 := Lib.hid h0
  have I1 := Lib.hid h1
  clear h0 h1
  go_enter Try.func3, Try.ntmps3
  go_wp2_with fail
  refine (belongs_ok _ _ _ _ _ I0.out).mono ?_
  rintro e w1 ⟨A, c, xss, rfl, hV, hl8, hR, hb1⟩
  have HV := Lib.hid hV
  have HR := Lib.hid hR
  have B1 := Lib.hid hb1
  have hs1 := hb1.size
  clear hV hR hb1
  have hmk := run_make_row' (P := Try.prog) 22 3 (.int .i64 0) 8 Try.underlying22 info_int rfl .i64 .i64 xss.length (by omega) (by omega)
  go_wp2_with fail
  have S0 := Lib.hid ((I1.out.strm' B1.out).alloc (.cells (madeCells #[.int .i64 0] xss.length) 3))
  have G0 := Lib.hid (Arr.made (t := 3) (w1.alloc (.cells #[.slice A1 n1 c1] 27)) xss.length)
  have B2 := Lib.hid (((Below.refl w1.heap.size w1).alloc (Nat.le_refl _) (.cells #[.slice A1 n1 c1] 27)).alloc (by simp) (.cells (madeCells #[.int .i64 0] xss.length) 3))
  simp only [World.size_alloc] at G0
  obtain ⟨b, hb⟩ : ∃ b, b = w1.heap.size := ⟨_, rfl⟩
  rw [← hb] at S0 G0 B2 ⊢
  have Hb := Lib.hid hb
  have hwb : w.heap.size ≤ b := by omega
  clear hb hmk hs1
  go_loopw [30] (fun i wr => ∃ (k : Nat) (ts : List Int), k ≤ xss.length ∧ i = .int .i64 k ∧ Hid (Durs xss ts) ∧ Arr wr (b + 1) 3 ts ∧ Strm w.heap.size wr b ∧ Below b w1 wr) (fun i _ => xss.length - (intOf i).toNat)
  case atStart => exact ⟨0, _, by omega, rfl, ⟨by simp, fun k x hk => by have := (List.mem_replicate.1 (List.mem_of_getElem? hk)).2; omega⟩, G0.out, S0.out, B2.out⟩
  case round =>
    obtain ⟨k, ts, hk, rfl, hd, harr, hst, hbel⟩ := hrel
    have Harr := Lib.hid harr
    have Hst := Lib.hid hst
    have Hbl := Lib.hid hbel
    clear harr hst hbel S0 G0 B2
    by_cases hlt : k < xss.length
    · obtain ⟨x, hx⟩ := some_at (l := ts) (k := k) (by have := hd.out.1; omega)
      have Hx := Lib.hid hx
      clear hx
      have hkl : k < ts.length := by have := hd.out.1; omega
      go_wp2_with (go_at_call 9; refine (next_any _ _ _ _ Hst.out (by omega) (by omega)).mono ?_; rintro e w2 ⟨q, rfl, hq0, hq1, hs2, hg2⟩; have Harr2 := Lib.hid (Harr.out.grown hg2 (by simp)); have Hs2 := Lib.hid hs2; have Hb2 := Lib.hid (Hbl.out.grown hg2 (by have := Hbl.out.size; have := Hb.out; omega) (fun k hk => by cases hk; omega)); clear hs2 hg2; have c1 := Harr2.out.at_ Hx.out; have c2 := Harr2.out.frozen k)
      go_roundw
      case rel =>
        refine ⟨k + 1, _, by omega, by go_num, ⟨by simpa using hd.out.1, fun j y hj => ?_⟩, Harr2.out.set_ _ _, Hs2.out.setCell (by simp) (by simp; omega) _, Hb2.out.setCell (by simp) _⟩
        by_cases e : k = j
        · subst e
          rw [List.getElem?_set_self hkl] at hj
          cases hj; omega
        · rw [List.getElem?_set_ne e] at hj
          exact hd.out.2 j y hj
      case measure => simp [intOf]; omega
    · have HR2 := Lib.hid (HR.out.below (by rw [← Hb.out]; exact Hbl.out))
      have HT2 := Lib.hid Harr.out.ri
      have hdl : ts.length = xss.length := hd.out.1
      have Hdl := Lib.hid hdl
      have hB2 := Lib.hid (B1.out.trans (Hbl.out.mono hwb))
      clear hdl Hst
      go_wp2_with fail
      refine (times_ok _ _ _ _ _ _ _ _ Hdl.out HR2.out HV.out HT2.out hd.out).mono ?_
      rintro e w3 ⟨v3, es, t, rfl, hes, hea, hen, how3, hb3⟩
      have Hes := Lib.hid hes
      have Hea := Lib.hid hea
      have Hen := Lib.hid hen
      have How3 := Lib.hid how3
      have Hb3 := Lib.hid hb3
      obtain ⟨Ae, ce, hv⟩ := own_slice how3
      subst hv
      have HE3 := Lib.hid (RI.own How3.out)
      have HR3 := Lib.hid (HR2.out.below Hb3.out)
      have HT3 := Lib.hid (HT2.out.below Hb3.out)
      have hB3 := Lib.hid (hB2.out.trans (Hb3.out.mono hB2.out.size))
      clear hes hea hen how3 hb3
      go_wp2_with fail
      refine (latest_ok _ _ _ _ _ _ _ _ Hdl.out HR3.out HV.out HT3.out hd.out).mono ?_
      rintro e w4 ⟨g', es', ls, t', rfl, hes', hea', hen', hla, harr4, hg4, hb4⟩
      obtain rfl := early_uniq HV.out Hea.out hea' Hes.out hes'
      obtain rfl := isEnd_uniq Hen.out hen'
      have Hla := Lib.hid hla
      have HL4 := Lib.hid harr4.ri
      have HR4 := Lib.hid (HR3.out.below hb4)
      have HT4 := Lib.hid (HT3.out.below hb4)
      have HE4 := Lib.hid (HE3.out.below hb4)
      have hB4 := Lib.hid (hB3.out.trans (hb4.mono hB3.out.size))
      have hll : ls.length = xss.length := hla.1
      have Hll := Lib.hid hll
      clear hes' hea' hen' hla harr4 hg4 hb4 hll
      go_wp2_with fail
      refine (ordered_ok _).mono ?_
      rintro e w5 ⟨rfl, hb5⟩
      have HL5 := Lib.hid (HL4.out.below hb5)
      have HR5 := Lib.hid (HR4.out.below hb5)
      have HT5 := Lib.hid (HT4.out.below hb5)
      have HE5 := Lib.hid (HE4.out.below hb5)
      have hB5 := Lib.hid (hB4.out.trans (hb5.mono hB4.out.size))
      have hq1 : ((es.length : Int) != xss.length) = false := by rw [Hes.out]; simp
      have hq2 : ((ls.length : Int) != xss.length) = false := by rw [Hll.out]; simp
      clear hb5
      clear HL4 HR4 HT4 HE4 hB4 HR3 HT3 HE3 hB3 How3 Hb3 HR2 HT2 hB2 HR B1 I0 I1
      go_wp2_with fail
      clear hq1 hq2
      obtain ⟨wo, hwo⟩ : ∃ wo : World, wo = wr := ⟨_, rfl⟩
      subst hwo
      go_loopw [14, 78] (fun a i wr => ∃ (k : Nat) (aa : Int), k ≤ xss.length ∧ i = .int .i64 k ∧ a = .int .i64 aa ∧ Hid (IsEnd ts (es.take k) aa) ∧ ∃ n, wr = w5.drewN n) (fun _ i _ => xss.length - (intOf i).toNat)
      case atStart => exact ⟨0, 0, by omega, rfl, rfl, ⟨by omega, by omega, by simp, .inl rfl⟩, 0, rfl⟩
      case round =>
        obtain ⟨k, aa, hk, rfl, rfl, hend, n, rfl⟩ := hrel
        by_cases hlt : k < xss.length
        · obtain ⟨l, hl⟩ := some_at hlt
          obtain ⟨e0, he0⟩ := some_at (l := es) (k := k) (by have := Hes.out; omega)
          obtain ⟨t0, ht0⟩ := some_at (l := ts) (k := k) (by have := Hdl.out; omega)
          obtain ⟨l0, hl0⟩ := some_at (l := ls) (k := k) (by have := Hll.out; omega)
          obtain ⟨b1, o1, rfl, hb1, hc1⟩ := HR5.out (by omega)
          obtain ⟨Aj, cj, c1, h2⟩ := hc1 _ l hl
          obtain ⟨b2, o2, rfl, hb2, hc2⟩ := HE5.out (by have := Hes.out; omega)
          have c2 := HE5.out.at_ he0
          have c3 := HT5.out.at_ ht0
          have c4 := HL5.out.at_ hl0
          rw [Nat.zero_add] at c3 c4
          have H2 := Lib.hid h2
          have hll := HV.out.len hl
          have hm := Lib.hid ((Hea.out.2 k l e0 hl he0).1)
          have hm0 := hm.out.1
          have hm1 := (Hea.out.2 k l e0 hl he0).2
          obtain ⟨q1, q2⟩ := Hla.out.2.1 k e0 l0 t0 he0 hl0 ht0
          obtain ⟨r1, r2⟩ := hd.out.2 k t0 ht0
          have hend2 : Hid (IsEnd ts (es.take (k + 1)) (if aa < e0 + t0 then e0 + t0 else aa)) := by
            have hlk : (es.take k).length = k := by have := Hes.out; simp; omega
            have := isEnd_snoc (v := e0) hend.out (by rw [hlk]; simp [List.getD, ht0]; omega)
            rw [hlk] at this
            have e : ts.getD k 0 = t0 := by simp [List.getD, ht0]
            rw [e] at this
            rw [List.take_add_one, he0, show (if aa < e0 + t0 then e0 + t0 else aa) = max aa (e0 + t0) by split <;> omega]
            exact this
          have hee := hend.out.1
          have hee2 := hend.out.2.1
          have Hl := Lib.hid hl
          have Hl0 := Lib.hid hl0
          have hkE : (k : Int) < (es.length : Int) := by have := Hes.out; omega
          have hkT : (k : Int) < (ts.length : Int) := by have := Hdl.out; omega
          have hkL : (k : Int) < (ls.length : Int) := by have := Hll.out; omega
          have hkX : (k : Int) < (xss.length : Int) := by omega
          have ht9 := Hen.out.2.1
          clear hl he0 ht0 hl0 hc1 h2 hc2
          go_wp2_with fail
          go_loopw [17, 85] (fun a i wr => ∃ (j : Nat) (aa : Int), j ≤ l.length ∧ i = .int .i64 j ∧ a = .int .i64 aa ∧ Hid (Mx (Ends es ts) (l.take j) aa) ∧ ∃ n, wr = w5.drewN n) (fun _ i _ => l.length - (intOf i).toNat)
          case atStart => exact ⟨0, 0, by omega, rfl, rfl, Mx.start _ _, n, rfl⟩
          case round =>
            obtain ⟨j, ab, hj, rfl, rfl, hmx, n, rfl⟩ := hrel
            by_cases hlt' : j < l.length
            · obtain ⟨x, hx⟩ := some_at hlt'
              obtain ⟨v1, v2⟩ := (HV.out.2 _ _ Hl.out).1 j x hx
              obtain ⟨x, rfl⟩ := Int.eq_ofNat_of_zero_le v1
              obtain ⟨e1, he1⟩ := some_at (l := es) (k := x) (by have := Hes.out; omega)
              obtain ⟨t1, ht1⟩ := some_at (l := ts) (k := x) (by have := Hdl.out; omega)
              obtain ⟨l1, hl1⟩ := some_at (l := ls) (k := x) (by have := Hll.out; omega)
              obtain ⟨b3, o3, rfl, hb3, hc3⟩ := H2.out (by omega)
              have c5 := H2.out.at_ hx
              have c6 := HE5.out.at_ he1
              have c7 := HT5.out.at_ ht1
              have c8 := HL5.out.at_ hl1
              rw [Nat.zero_add] at c7 c8
              have hbef := Hla.out.2.2 k l l0 (by omega) Hl.out Hl0.out (x : Int) (List.mem_of_getElem? hx)
              have hbef2 : l1 + t1 ≤ l0 := by unfold Ends at hbef; simpa [List.getD, hl1, ht1] using hbef
              obtain ⟨lx, hlx⟩ := some_at (l := xss) (k := x) (by omega)
              obtain ⟨p1, p2⟩ := hd.out.2 x t1 ht1
              obtain ⟨p3, p4⟩ := Hla.out.2.1 x e1 l1 t1 he1 hl1 ht1
              have p5 := (Hea.out.2 x lx e1 hlx he1).1.1
              have p6 := (Hea.out.2 x lx e1 hlx he1).2
              have hmx2 : Hid (Mx (Ends es ts) (l.take (j + 1)) (max ab (e1 + t1))) := by
                have := hmx.out.snoc hx
                have he : Ends es ts (x : Int) = e1 + t1 := by unfold Ends; simp [List.getD, he1, ht1]
                rw [he] at this; exact this
              have p7 := hmx.out.1
              have hxE : (x : Int) < (es.length : Int) := by have := Hes.out; omega
              have hxT : (x : Int) < (ts.length : Int) := by have := Hdl.out; omega
              have hxL : (x : Int) < (ls.length : Int) := by have := Hll.out; omega
              have hxX : (x : Int) < (xss.length : Int) := by omega
              have hdd : decide (l0 < l1 + t1) = false := by simp; omega
              clear hbef hlx hx he1 ht1 hl1 hc3 v1 v2
              go_wp2
              go_quiet (fail)
              go_wp2
              all_goals
                go_quiet (fail)
                go_wp2
                go_roundw
                case rel =>
                  refine ⟨j + 1, _, by omega, by go_num, rfl, ?_, _, rfl⟩
                  first
                    | (rw [show max ab (e1 + t1) = e1 + t1 by omega] at hmx2; exact hmx2)
                    | (rw [show max ab (e1 + t1) = ab by omega] at hmx2; exact hmx2)
                case measure => simp [intOf]; omega
            · have hjl : j = l.length := by omega
              subst hjl
              have hmx' := hmx.out
              rw [List.take_length] at hmx'
              have hab : ab = e0 := hmx'.uniq hm.out (fun _ _ => rfl)
              subst hab
              have g1 : (ab != ab) = false := by simp
              have g2 : decide (l0 < ab) = false := by simp; omega
              have g3 : decide (t < l0 + t0) = false := by simp; omega
              clear hmx' hmx
              go_wp2
              go_quiet (fail)
              go_wp2
              all_goals
                go_roundw
                case rel => exact ⟨k + 1, _, by omega, by go_num, rfl, hend2, _, rfl⟩
                case measure => simp [intOf]; omega
        · have hkx : k = xss.length := by omega
          subst hkx
          have hend' := hend.out
          rw [← Hes.out, List.take_length] at hend'
          obtain rfl := isEnd_uniq hend' Hen.out
          clear hend' hend
          go_wp2
          go_ret
          exact ⟨ret_bool (by simp), below_drewN hB5.out n⟩
end Go.Proofs.Ytnmngjikcimpnaa
