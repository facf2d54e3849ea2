/- The walk of gantkeep4.OrderChain. -/
import Derived.Test.YtnmngjikcimpnaaCrit
import Derived.Test.YtnmngjikcimpnaaBel
import Derived.Test.YtnmngjikcimpnaaOrdered
import Derived.StillTailTactics
namespace Go.Proofs.Ytnmngjikcimpnaa
open Go.RowKit
set_option linter.unusedVariables false

/-- A step before a critical one that it waits for is critical. -/
theorem crit_before {xss : List (List Int)} {ts es ls l : List Int} {t a : Int} {k : Nat} {x : Int} (hD : Durs xss ts) (hV : Valid xss) (hLa : LateTo xss ts es t 0 ls) (hes : es.length = xss.length) (hl : xss[k]? = some l) (ha : es[k]? = some a) (hb : ls[k]? = some a)
    (hx : x ∈ l) (he : a = Ends es ts x) : x ∈ critTo es ls xss.length := by
  obtain ⟨i, hi⟩ := List.getElem?_of_mem hx
  obtain ⟨v1, v2⟩ := (hV.2 k l hl).1 i x hi
  have hk := lt_of_at hl
  obtain ⟨e1, he1⟩ := some_at (l := es) (k := x.toNat) (by omega)
  obtain ⟨l1, hl1⟩ := some_at (l := ls) (k := x.toNat) (by have := hLa.1; omega)
  obtain ⟨t1, ht1⟩ := some_at (l := ts) (k := x.toNat) (by have := hD.1; omega)
  obtain ⟨p1, p2⟩ := hLa.2.1 x.toNat e1 l1 t1 he1 hl1 ht1
  have p3 := hLa.2.2 k l a (by omega) hl hb x hx
  unfold Ends at p3 he
  simp only [List.getD, hl1, ht1, he1, Option.getD_some] at p3 he
  refine critTo_mem.2 ⟨v1, by omega, ?_⟩
  simp only [List.getD, hl1, he1, Option.getD_some]
  omega

def bestAt (bs : List Int) (x : Int) : Int := bs.getD x.toNat 0
def InB (bs l : List Int) (g t kk j : Nat) (w5 w : World) : Prop := ∃ v : Int, Hid (Mx (bestAt bs) (l.take j) v) ∧ 0 ≤ v ∧ v ≤ 80000 ∧ Arr w g t (bs.set kk v) ∧ Below g w5 w

/-- What the array of the longest chains holds when the first i critical steps are done. -/
def Best (es ts bs : List Int) (n : Nat) (done : List Int) : Prop := bs.length = n ∧ ∀ (j : Nat) (b : Int), bs[j]? = some b → (((j : Int) ∈ done ∧ b = Ends es ts j) ∨ ((j : Int) ∉ done ∧ b = 0))

theorem best_mx {xss : List (List Int)} {ts es ls l bs : List Int} {t a v : Int} {k i : Nat} (hD : Durs xss ts) (hV : Valid xss) (hEa : Early xss ts es) (hLa : LateTo xss ts es t 0 ls) (hes : es.length = xss.length)
    (hB : Best es ts bs xss.length ((critTo es ls xss.length).take i)) (hk : (critTo es ls xss.length)[i]? = some (k : Int)) (hl : xss[k]? = some l) (ha : es[k]? = some a)
    (hv : Mx (bestAt bs) l v) : v = a := by
  have hm := (hEa.2 k l a hl ha).1
  have hkm := List.mem_of_getElem? hk
  obtain ⟨_, _, hcr⟩ := critTo_mem.1 hkm
  obtain ⟨b, hb⟩ := some_at (l := ls) (k := k) (by have := hLa.1; have := lt_of_at hl; omega)
  simp only [List.getD, Int.toNat_natCast, ha, hb, Option.getD_some] at hcr
  subst hcr
  have hpos : ∀ x ∈ l, 0 ≤ x ∧ x < k := fun x hx => by
    obtain ⟨j, hj⟩ := List.getElem?_of_mem hx
    exact (hV.2 k l hl).1 j x hj
  have hends0 : ∀ x ∈ l, 0 ≤ Ends es ts x := fun x hx => by
    obtain ⟨x0, x1⟩ := hpos x hx
    obtain ⟨e1, he1⟩ := some_at (l := es) (k := x.toNat) (by have := lt_of_at hl; omega)
    obtain ⟨t1, ht1⟩ := some_at (l := ts) (k := x.toNat) (by have := hD.1; have := lt_of_at hl; omega)
    obtain ⟨lx, hlx⟩ := some_at (l := xss) (k := x.toNat) (by have := lt_of_at hl; omega)
    have := (hEa.2 x.toNat lx e1 hlx he1).1.1
    have := (hD.2 _ _ ht1).1
    unfold Ends; simp only [List.getD, he1, ht1, Option.getD_some]; omega
  have hle : ∀ x ∈ l, bs.getD x.toNat 0 ≤ Ends es ts x := fun x hx => by
    obtain ⟨x0, x1⟩ := hpos x hx
    obtain ⟨b1, hb1⟩ := some_at (l := bs) (k := x.toNat) (by have := hB.1; have := lt_of_at hl; omega)
    have e : ((x.toNat : Nat) : Int) = x := by omega
    rcases hB.2 _ b1 hb1 with ⟨_, h⟩ | ⟨_, h⟩
    · rw [e] at h; simp only [List.getD, hb1, Option.getD_some]; omega
    · have := hends0 x hx; simp only [List.getD, hb1, Option.getD_some]; omega
  have hin : ∀ x ∈ l, a = Ends es ts x → bs.getD x.toNat 0 = Ends es ts x := fun x hx he => by
    obtain ⟨x0, x1⟩ := hpos x hx
    have hc := crit_before hD hV hLa hes hl ha hb hx he
    obtain ⟨b1, hb1⟩ := some_at (l := bs) (k := x.toNat) (by have := hB.1; have := lt_of_at hl; omega)
    have e : ((x.toNat : Nat) : Int) = x := by omega
    rcases hB.2 _ b1 hb1 with ⟨_, h⟩ | ⟨h0, h⟩
    · rw [e] at h; simp only [List.getD, hb1, Option.getD_some]; omega
    · refine absurd ?_ h0
      rw [e]
      exact crit_done hk hc x1
  obtain ⟨m0, m1, m2⟩ := hm
  obtain ⟨n0, n1, n2⟩ := hv
  unfold bestAt at n1 n2
  have A1 : v ≤ a := by
    rcases n2 with h | ⟨x, hx, h⟩
    · omega
    · have := hle x hx; have := m1 x hx; omega
  have A2 : a ≤ v := by
    rcases m2 with h | ⟨x, hx, h⟩
    · omega
    · have := n1 x hx; have := hin x hx h; omega
  omega

theorem best_keep {es ts bs : List Int} {n : Nat} {done : List Int} {k : Nat} {v : Int} (h : Best es ts bs n done) (hk : (k : Int) ∉ done) (hkn : k < n) : Best es ts (bs.set k (Ends es ts k)) n (done ++ [(k : Int)]) := by
  refine ⟨by simpa using h.1, fun j b hj => ?_⟩
  by_cases e : k = j
  · subst e
    rw [List.getElem?_set_self (by rw [h.1]; exact hkn)] at hj
    cases hj
    exact .inl ⟨by simp, rfl⟩
  · rw [List.getElem?_set_ne e] at hj
    rcases h.2 j b hj with ⟨h1, h2⟩ | ⟨h1, h2⟩
    · exact .inl ⟨by simp [h1], h2⟩
    · exact .inr ⟨by simp [h1]; omega, h2⟩

theorem hEa2 {xss : List (List Int)} {ts es l : List Int} {k : Nat} {e : Int} (h : Early xss ts es) (hl : xss[k]? = some l) (he : es[k]? = some e) : 0 ≤ e ∧ e ≤ 2000 * k :=
  ⟨(h.2 k l e hl he).1.1, (h.2 k l e hl he).2⟩

/-- The greatest end of a critical step is the whole time. -/
theorem most_end {xss : List (List Int)} {ts es ls : List Int} {t v : Int} (hD : Durs xss ts) (hLa : LateTo xss ts es t 0 ls) (hes : es.length = xss.length) (hE : IsEnd ts es t) (hv : Mx (Ends es ts) (critTo es ls xss.length) v) : v = t := by
  obtain ⟨n0, n1, n2⟩ := hv
  obtain ⟨m0, _, m1, m2⟩ := hE
  have A1 : v ≤ t := by
    rcases n2 with h | ⟨x, hx, h⟩
    · omega
    · obtain ⟨x0, x1, _⟩ := critTo_mem.1 hx
      obtain ⟨e1, he1⟩ := some_at (l := es) (k := x.toNat) (by omega)
      have := m1 x.toNat e1 he1
      unfold Ends at h
      simp only [List.getD, he1, Option.getD_some] at h this
      omega
  have A2 : t ≤ v := by
    rcases m2 with h | ⟨k, x, hk, h⟩
    · omega
    · have hlt := lt_of_at hk
      obtain ⟨l1, hl1⟩ := some_at (l := ls) (k := k) (by have := hLa.1; omega)
      obtain ⟨t1, ht1⟩ := some_at (l := ts) (k := k) (by have := hD.1; omega)
      obtain ⟨p1, p2⟩ := hLa.2.1 k x l1 t1 hk hl1 ht1
      simp only [List.getD, ht1, Option.getD_some] at h
      have := n1 (k : Int) (critTo_mem.2 ⟨by omega, by omega, by simp only [List.getD, Int.toNat_natCast, hk, hl1, Option.getD_some]; omega⟩)
      unfold Ends at this
      simp only [List.getD, Int.toNat_natCast, hk, ht1, Option.getD_some] at this
      omega
  omega

theorem crit_some {xss : List (List Int)} {ts es ls : List Int} {t : Int} (hD : Durs xss ts) (h1 : ∀ x ∈ ts, 1 ≤ x) (hEa : Early xss ts es) (hLa : LateTo xss ts es t 0 ls) (hes : es.length = xss.length) (hE : IsEnd ts es t) (hp : 0 < xss.length) : 0 < (critTo es ls xss.length).length := by
  obtain ⟨m0, _, m1, m2⟩ := hE
  obtain ⟨e0, he0⟩ := some_at (l := es) (k := 0) (by omega)
  obtain ⟨t0, ht0⟩ := some_at (l := ts) (k := 0) (by have := hD.1; omega)
  obtain ⟨l0, hl0⟩ := some_at (l := xss) (k := 0) (by omega)
  have a1 := m1 0 e0 he0
  simp only [List.getD, ht0, Option.getD_some] at a1
  have a2 := (hEa.2 0 l0 e0 hl0 he0).1.1
  have a3 := h1 t0 (List.mem_of_getElem? ht0)
  rcases m2 with h | ⟨k, x, hk, h⟩
  · omega
  · have hlt := lt_of_at hk
    obtain ⟨l1, hl1⟩ := some_at (l := ls) (k := k) (by have := hLa.1; omega)
    obtain ⟨t1, ht1⟩ := some_at (l := ts) (k := k) (by have := hD.1; omega)
    obtain ⟨p1, p2⟩ := hLa.2.1 k x l1 t1 hk hl1 ht1
    simp only [List.getD, ht1, Option.getD_some] at h
    exact List.length_pos_of_mem (a := (k : Int)) (critTo_mem.2 ⟨by omega, by omega, by simp only [List.getD, Int.toNat_natCast, hk, hl1, Option.getD_some]; omega⟩)

set_option maxHeartbeats 2000000 in
set_option maxRecDepth 100000 in
theorem chain_ok (A0 : Option Addr) (n0 c0 : Nat) (z0 : List Int) (A1 : Option Addr) (n1 c1 : Nat) (z1 : List Int) (w : World) (h0 : IntArg w A0 n0 c0 z0) (h1 : IntArg w A1 n1 c1 z1) :
    Calls Try.prog 4 #[.slice A0 n0 c0, .slice A1 n1 c1] w fun e w' => e = .returned (.bool true) ∧ Below w.heap.size w w' := by
  have I0 := Lib.hid h0
  have I1 := Lib.hid h1
  clear h0 h1
  go_enter Try.func4, Try.ntmps4
  go_wp2_with fail
  refine (belongs_ok _ _ _ _ _ I0.out).mono ?_
  rintro e w1 ⟨A, c, xss, rfl, hV, hl8, hR, hb1⟩
  have HV := Lib.hid hV
  have HR := Lib.hid hR
  have B1 := Lib.hid hb1
  have hs1 := hb1.size
  clear hV hR hb1
  have hmk := run_make_row' (P := Try.prog) 22 3 (.int .i64 0) 8 Try.underlying22 info_int rfl .i64 .i64 xss.length (by omega) (by omega)
  go_wp2_with fail
  have S0 := Lib.hid ((I1.out.strm' B1.out).alloc (.cells (madeCells #[.int .i64 0] xss.length) 3))
  have G0 := Lib.hid (Arr.made (t := 3) (w1.alloc (.cells #[.slice A1 n1 c1] 27)) xss.length)
  have B2 := Lib.hid (((Below.refl w1.heap.size w1).alloc (Nat.le_refl _) (.cells #[.slice A1 n1 c1] 27)).alloc (by simp) (.cells (madeCells #[.int .i64 0] xss.length) 3))
  simp only [World.size_alloc] at G0
  obtain ⟨b, hb⟩ : ∃ b, b = w1.heap.size := ⟨_, rfl⟩
  rw [← hb] at S0 G0 B2 ⊢
  have Hb := Lib.hid hb
  have hwb : w.heap.size ≤ b := by omega
  have Hmk := Lib.hid hmk
  clear hb hmk hs1
  go_loopw [30] (fun i wr => ∃ (k : Nat) (ts : List Int), k ≤ xss.length ∧ i = .int .i64 k ∧ Hid (Durs xss ts ∧ ∀ (j : Nat) (x : Int), j < k → ts[j]? = some x → 1 ≤ x) ∧ Arr wr (b + 1) 3 ts ∧ Strm w.heap.size wr b ∧ Below b w1 wr) (fun i _ => xss.length - (intOf i).toNat)
  case atStart => exact ⟨0, _, by omega, rfl, ⟨⟨by simp, fun k x hk => by have := (List.mem_replicate.1 (List.mem_of_getElem? hk)).2; omega⟩, fun j x hj => absurd hj (by omega)⟩, G0.out, S0.out, B2.out⟩
  case round =>
    obtain ⟨k, ts, hk, rfl, hd, harr, hst, hbel⟩ := hrel
    have Harr := Lib.hid harr
    have Hst := Lib.hid hst
    have Hbl := Lib.hid hbel
    clear harr hst hbel S0 G0 B2
    by_cases hlt : k < xss.length
    · obtain ⟨x, hx⟩ := some_at (l := ts) (k := k) (by have := hd.out.1.1; omega)
      have Hx := Lib.hid hx
      clear hx
      have hkl : k < ts.length := by have := hd.out.1.1; omega
      go_wp2_with (go_at_call 9; refine (next_any _ _ _ _ Hst.out (by omega) (by omega)).mono ?_; rintro e w2 ⟨q, rfl, hq0, hq1, hs2, hg2⟩; have Harr2 := Lib.hid (Harr.out.grown hg2 (by simp)); have Hs2 := Lib.hid hs2; have Hb2 := Lib.hid (Hbl.out.grown hg2 (by have := Hbl.out.size; have := Hb.out; omega) (fun k hk => by cases hk; omega)); clear hs2 hg2; have c1 := Harr2.out.at_ Hx.out; have c2 := Harr2.out.frozen k)
      go_roundw
      case rel =>
        refine ⟨k + 1, _, by omega, by go_num, ⟨⟨by simpa using hd.out.1.1, fun j y hj => ?_⟩, fun j y hjk hj => ?_⟩, Harr2.out.set_ _ _, Hs2.out.setCell (by simp) (by simp; omega) _, Hb2.out.setCell (by simp) _⟩
        · by_cases e : k = j
          · subst e
            rw [List.getElem?_set_self hkl] at hj
            cases hj; omega
          · rw [List.getElem?_set_ne e] at hj
            exact hd.out.1.2 j y hj
        · by_cases e : k = j
          · subst e
            rw [List.getElem?_set_self hkl] at hj
            cases hj; omega
          · rw [List.getElem?_set_ne e] at hj
            exact hd.out.2 j y (by omega) hj
      case measure => simp [intOf]; omega
    · have HR2 := Lib.hid (HR.out.below (by rw [← Hb.out]; exact Hbl.out))
      have HT2 := Lib.hid Harr.out.ri
      have HD := Lib.hid hd.out.1
      have H1 : Hid (∀ x ∈ ts, 1 ≤ x) := fun x hx => by
        obtain ⟨j, hj⟩ := List.getElem?_of_mem hx
        exact hd.out.2 j x (by have := lt_of_at hj; have := HD.out.1; omega) hj
      have hdl : ts.length = xss.length := HD.out.1
      have Hdl := Lib.hid hdl
      have hB2 := Lib.hid (B1.out.trans (Hbl.out.mono hwb))
      clear hdl Hst hd
      go_wp2_with fail
      refine (critical_ok _ _ _ _ _ _ _ _ Hdl.out HR2.out HV.out HT2.out HD.out).mono ?_
      rintro e w3 ⟨v3, es, ls, t, rfl, hes, hea, hen, hla, how3, hb3⟩
      have Hes := Lib.hid hes
      have Hea := Lib.hid hea
      have Hen := Lib.hid hen
      have Hla := Lib.hid hla
      have How3 := Lib.hid how3
      obtain ⟨Ac, cc, hv⟩ := own_slice how3
      subst hv
      have HC3 := Lib.hid (RI.own How3.out)
      have HR3 := Lib.hid (HR2.out.below hb3)
      have HT3 := Lib.hid (HT2.out.below hb3)
      have hB3 := Lib.hid (hB2.out.trans (hb3.mono hB2.out.size))
      clear hes hea hen hla how3 hb3
      go_wp2_with fail
      refine (times_ok _ _ _ _ _ _ _ _ Hdl.out HR3.out HV.out HT3.out HD.out).mono ?_
      rintro e w4 ⟨v4, es', t', rfl, hes', hea', hen', _, hb4⟩
      obtain rfl := early_uniq HV.out Hea.out hea' Hes.out hes'
      obtain rfl := isEnd_uniq Hen.out hen'
      have HR4 := Lib.hid (HR3.out.below hb4)
      have HT4 := Lib.hid (HT3.out.below hb4)
      have HC4 := Lib.hid (HC3.out.below hb4)
      have hB4 := Lib.hid (hB3.out.trans (hb4.mono hB3.out.size))
      clear hes' hea' hen' hb4
      go_wp2_with fail
      refine (ordered_ok _).mono ?_
      rintro e w5 ⟨rfl, hb5⟩
      have HR5 := Lib.hid (HR4.out.below hb5)
      have HT5 := Lib.hid (HT4.out.below hb5)
      have HC5 := Lib.hid (HC4.out.below hb5)
      have hB5 := Lib.hid (hB4.out.trans (hb5.mono hB4.out.size))
      have HCl := Lib.hid (critTo_len es ls xss.length)
      have hcs := Lib.hid (crit_some HD.out H1.out Hea.out Hla.out Hes.out Hen.out)
      clear hb5
      clear HR4 HT4 HC4 hB4 HR3 HT3 HC3 hB3 How3 HR2 HT2 hB2 HR B1 I0 I1 Harr Hbl
      obtain ⟨cs, hcse⟩ : ∃ cs, cs = critTo es ls xss.length := ⟨_, rfl⟩
      rw [← hcse] at HC5 HCl hcs ⊢
      have Hcs := Lib.hid hcse
      have hcl := HCl.out
      clear hcse
      have hmk := Hmk.out
      have hg1 : 0 < xss.length → ((cs.length : Int) == 0) = false := fun h => by
        have := hcs.out h
        simp; intro h; simp [h] at this
      have Hg1 := Lib.hid hg1
      clear hg1
      have A0 := Lib.hid (Arr.made (t := 3) w5 xss.length)
      have A1 := Lib.hid ((Below.refl w5.heap.size w5).alloc (Nat.le_refl _) (.cells (madeCells #[.int .i64 0] xss.length) 3))
      by_cases hz : 0 < xss.length
      all_goals
        first | have hg1 := Hg1.out hz | skip
        go_wp2_with fail
        obtain ⟨g, hg⟩ : ∃ g, g = w5.heap.size := ⟨_, rfl⟩
        rw [← hg] at A0 A1 ⊢
        have Hg := Lib.hid hg
        clear hmk hg
        go_loopw [15, 78] (fun a i wr => ∃ (k : Nat) (bs : List Int) (aa : Int), k ≤ cs.length ∧ i = .int .i64 k ∧ a = .int .i64 aa ∧ Hid (Best es ts bs xss.length (cs.take k)) ∧ Hid (Mx (Ends es ts) (cs.take k) aa) ∧ Arr wr g 3 bs ∧ Below g w5 wr) (fun _ i _ => cs.length - (intOf i).toNat)
        case atStart => exact ⟨0, _, 0, by omega, rfl, rfl, ⟨by simp, fun j b hj => .inr ⟨by simp, (List.mem_replicate.1 (List.mem_of_getElem? hj)).2⟩⟩, Mx.start _ _, A0.out, A1.out⟩
        case round =>
          obtain ⟨i, bs, aa, hi, rfl, rfl, hbest, hmost, harr, hbl⟩ := hrel
          have Harr := Lib.hid harr
          have Hbl := Lib.hid hbl
          clear harr hbl A0 A1
          by_cases hlt : i < cs.length
          · try (exfalso; omega)
            all_goals
              obtain ⟨kk, hkk⟩ := some_at hlt
              have hkm := List.mem_of_getElem? hkk
              rw [Hcs.out] at hkm
              obtain ⟨k0, k1, _⟩ := critTo_mem.1 hkm
              clear hkm
              obtain ⟨kk, rfl⟩ := Int.eq_ofNat_of_zero_le k0
              have hkx : kk < xss.length := by omega
              obtain ⟨l, hl⟩ := some_at hkx
              obtain ⟨e0, he0⟩ := some_at (l := es) (k := kk) (by have := Hes.out; omega)
              obtain ⟨t0, ht0⟩ := some_at (l := ts) (k := kk) (by have := Hdl.out; omega)
              have Hnot : Hid ((kk : Int) ∉ cs.take i) := fun hm => by
                obtain ⟨j, hj⟩ := List.getElem?_of_mem hm
                rw [List.getElem?_take] at hj
                split at hj
                · rename_i hji
                  have h1 := hkk
                  rw [Hcs.out] at h1 hj
                  have := critTo_inc _ _ _ j i _ _ hji hj h1
                  omega
                · cases hj
              have hb0 : bs[kk]? = some 0 := by
                obtain ⟨b0, hb0⟩ := some_at (l := bs) (k := kk) (by have := hbest.out.1; omega)
                rcases hbest.out.2 kk b0 hb0 with ⟨h, _⟩ | ⟨_, h⟩
                · exact absurd h Hnot.out
                · rw [hb0, h]
              have hset : bs.set kk 0 = bs := by
                apply List.ext_getElem?
                intro j
                by_cases e : kk = j
                · subst e; rw [List.getElem?_set_self (lt_of_at hb0), hb0]
                · rw [List.getElem?_set_ne e]
              obtain ⟨b1, o1, rfl, hb1, hc1⟩ := HC5.out (by omega)
              have hgw := Hg.out
              have c1 := (HC5.out.below (by rw [← hgw]; exact Hbl.out)).at_ hkk
              obtain ⟨b2, o2, rfl, hb2, hc2⟩ := HR5.out (by omega)
              obtain ⟨Aj, cj, c2', h2⟩ := hc2 _ l hl
              have c2 := (Hbl.out.cell (p := ⟨b2, o2 + kk, none⟩) (by rw [hgw]; exact hb2)).trans c2'
              have H2 := Lib.hid h2
              have hll := HV.out.len hl
              have hEm := Lib.hid (hEa2 Hea.out hl he0)
              obtain ⟨m0, m1⟩ := hEm.out
              obtain ⟨r1, r2⟩ := HD.out.2 kk t0 ht0
              have hend := (Hen.out.2.2.1 kk e0 he0)
              rw [show ts.getD kk 0 = t0 by simp [List.getD, ht0]] at hend
              have ht9 := Hen.out.2.1
              have hEv := Lib.hid (show Ends es ts (kk : Int) = e0 + t0 by unfold Ends; simp [List.getD, he0, ht0])
              have hm0 := hmost.out.1
              have hm9 : aa ≤ 80000 := by
                rcases hmost.out.2.2 with h | ⟨x, hx, h⟩
                · omega
                · have hx' := List.mem_of_mem_take hx
                  rw [Hcs.out] at hx'
                  obtain ⟨x0, x1, _⟩ := critTo_mem.1 hx'
                  obtain ⟨ex, hex⟩ := some_at (l := es) (k := x.toNat) (by have := Hes.out; omega)
                  have := Hen.out.2.2.1 x.toNat ex hex
                  unfold Ends at h
                  simp only [List.getD, hex, Option.getD_some] at h this
                  omega
              have Hl := Lib.hid hl
              have He0 := Lib.hid he0
              have Ht0 := Lib.hid ht0
              have Hb0 := Lib.hid hb0
              have Hkk := Lib.hid hkk
              have Hset := Lib.hid hset
              have hkX : (kk : Int) < (xss.length : Int) := by omega
              have hkT : (kk : Int) < (ts.length : Int) := by have := Hdl.out; omega
              clear hc1 hc2 c2' h2 hl he0 ht0 hb0 hkk hset hgw k0 k1
              go_wp2_with fail
              obtain ⟨wo, hwo⟩ : ∃ wo : World, wo = wr := ⟨_, rfl⟩
              subst hwo
              go_loopw [95] (fun i wr => ∃ (j : Nat), j ≤ l.length ∧ i = .int .i64 j ∧ InB bs l g 3 kk j w5 wr) (fun i _ => l.length - (intOf i).toNat)
              case atStart => exact ⟨0, by omega, rfl, 0, Mx.start _ _, by omega, by omega, by rw [Hset.out]; exact Harr.out, Hbl.out⟩
              case round =>
                obtain ⟨j, hj, rfl, v, hmx, hv0, hv1, harr2, hbl2⟩ := hrel
                have Harr2 := Lib.hid harr2
                have Hbl2 := Lib.hid hbl2
                clear harr2 hbl2
                have hgw := Hg.out
                have hkk2 : (bs.set kk v)[kk]? = some v := List.getElem?_set_self (by have := hbest.out.1; omega)
                have d1 := Harr2.out.at_ hkk2
                have d2 := Harr2.out.frozen kk
                by_cases hlt' : j < l.length
                · obtain ⟨x, hx⟩ := some_at hlt'
                  obtain ⟨v1, v2⟩ := (HV.out.2 _ _ Hl.out).1 j x hx
                  obtain ⟨x, rfl⟩ := Int.eq_ofNat_of_zero_le v1
                  obtain ⟨p, hp⟩ := some_at (l := bs) (k := x) (by have := hbest.out.1; omega)
                  have hp2 : (bs.set kk v)[x]? = some p := by rw [List.getElem?_set_ne (by omega)]; exact hp
                  have d3 := Harr2.out.at_ hp2
                  obtain ⟨b3, o3, rfl, hb3, hc3⟩ := H2.out (by omega)
                  have c5 := (H2.out.below (by rw [← hgw]; exact Hbl2.out)).at_ hx
                  have hpb : 0 ≤ p ∧ p ≤ 80000 := by
                    rcases hbest.out.2 x p hp with ⟨_, h⟩ | ⟨_, h⟩
                    · obtain ⟨ex, hex⟩ := some_at (l := es) (k := x) (by have := Hes.out; omega)
                      obtain ⟨tx, htx⟩ := some_at (l := ts) (k := x) (by have := Hdl.out; omega)
                      obtain ⟨lx, hlx⟩ := some_at (l := xss) (k := x) (by omega)
                      have q1 := Hen.out.2.2.1 x ex hex
                      have q2 := (HD.out.2 x tx htx).1
                      have q3 := (Hea.out.2 x lx ex hlx hex).1.1
                      unfold Ends at h
                      simp only [List.getD, Int.toNat_natCast, hex, htx, Option.getD_some] at h q1
                      omega
                    · omega
                  obtain ⟨p0, p1⟩ := hpb
                  have hmx2 : Hid (Mx (bestAt bs) (l.take (j + 1)) (if v < p then p else v)) := by
                    have := hmx.out.snoc hx
                    rw [show bestAt bs (x : Int) = p by simp [bestAt, List.getD, hp]] at this
                    rw [show (if v < p then p else v) = max v p by split <;> omega]
                    exact this
                  have hxX : (x : Int) < (xss.length : Int) := by omega
                  clear hgw hkk2 hx hp hp2 hc3 v1 v2
                  go_wp2
                  go_still_tail 12, (by kernel_rfl)
                  go_wp2
                  all_goals
                    go_roundw
                    case rel =>
                      have hs := Harr2.out.set_ kk (if v < p then p else v)
                      rw [List.set_set] at hs
                      first
                        | (rw [if_pos (by assumption)] at hs hmx2; exact ⟨j + 1, by omega, by go_num, _, hmx2, by omega, by omega, hs.drew, (Hbl2.out.setCell (Nat.le_refl _) _).drew⟩)
                        | (rw [if_neg (by omega)] at hs hmx2; exact ⟨j + 1, by omega, by go_num, _, hmx2, by omega, by omega, hs.drew, (Hbl2.out.setCell (Nat.le_refl _) _).drew⟩)
                    case measure => simp [intOf]; omega
                · have hjl : j = l.length := by omega
                  subst hjl
                  have hmx' := hmx.out
                  rw [List.take_length] at hmx'
                  have hve : v = e0 := best_mx HD.out HV.out Hea.out Hla.out Hes.out (by rw [← Hcs.out]; exact hbest.out) (by rw [← Hcs.out]; exact Hkk.out) Hl.out He0.out hmx'
                  subst hve
                  have c6 := (HT5.out.below (by rw [← hgw]; exact Hbl2.out)).at_ Ht0.out
                  rw [Nat.zero_add] at c6
                  clear hgw hkk2 hmx' hmx
                  go_wp2
                  go_still_tail 10, (by kernel_rfl)
                  go_wp2
                  all_goals
                    go_roundw
                    case rel =>
                      have hs := Harr2.out.set_ kk (v + t0)
                      rw [List.set_set] at hs
                      have hbk := best_keep (v := 0) hbest.out Hnot.out hkx
                      rw [hEv.out] at hbk
                      have hmk2 := hmost.out.snoc Hkk.out
                      rw [hEv.out] at hmk2
                      refine ⟨i + 1, _, _, by omega, by go_num, rfl, ?_, ?_, hs.drew, (Hbl2.out.setCell (Nat.le_refl _) _).drew⟩
                      · rw [List.take_add_one, Hkk.out]; exact hbk
                      · rw [show (if aa < v + t0 then v + t0 else aa) = max aa (v + t0) by split <;> omega]; exact hmk2
                    case measure => simp [intOf]; omega
          · have hil : i = cs.length := by omega
            subst hil
            have hm' := hmost.out
            rw [List.take_length, Hcs.out] at hm'
            obtain rfl := most_end HD.out Hla.out Hes.out Hen.out hm'
            clear hm' hmost
            go_wp2
            go_ret
            exact ⟨ret_bool (by simp), hB5.out.trans (Hbl.out.mono (by rw [Hg.out]; exact hB5.out.size))⟩
end Go.Proofs.Ytnmngjikcimpnaa
