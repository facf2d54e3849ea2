/- The walk of order.Latest. -/
import Derived.Test.YtnmngjikcimpnaaOrdB
import Derived.StillTailTactics
namespace Go.Proofs.Ytnmngjikcimpnaa
open Go.RowKit
set_option linter.unusedVariables false

/-- Latest starts: none is before the earliest one, all end in time, and each step ends before what follows it starts; of the steps from k on what follows is said. -/
def LateTo (xss : List (List Int)) (ts es : List Int) (t : Int) (k : Nat) (ls : List Int) : Prop :=
  ls.length = xss.length ∧ (∀ (j : Nat) (e x y : Int), es[j]? = some e → ls[j]? = some x → ts[j]? = some y → e ≤ x ∧ x + y ≤ t) ∧
  ∀ (j : Nat) (l : List Int) (x : Int), k ≤ j → xss[j]? = some l → ls[j]? = some x → ∀ z ∈ l, Ends ls ts z ≤ x

theorem late_start {xss : List (List Int)} {ts es ls : List Int} {t : Int} (hD : Durs xss ts) (hl : ls.length = xss.length) (hE : IsEnd ts es t) (h : ∀ (j : Nat) (x y : Int), ls[j]? = some x → ts[j]? = some y → x = t - y) :
    LateTo xss ts es t xss.length ls := by
  refine ⟨hl, fun j e x y he hx hy => ?_, fun j l x hj hl' => absurd (lt_of_at hl') (by omega)⟩
  have := h j x y hx hy
  obtain ⟨_, _, h2, _⟩ := hE
  have h3 := h2 j e he
  have : ts.getD j 0 = y := by simp [List.getD, hy]
  omega

/-- One step earlier: 'before' what comes behind the first i of step k's. -/
def LateIn (xss : List (List Int)) (ts es : List Int) (t : Int) (k : Nat) (i : Nat) (ls : List Int) : Prop :=
  LateTo xss ts es t (k + 1) ls ∧ ∀ (l : List Int) (x : Int), xss[k]? = some l → ls[k]? = some x → ∀ z ∈ l.take i, Ends ls ts z ≤ x

theorem lateIn_start {xss : List (List Int)} {ts es ls : List Int} {t : Int} {k : Nat} (h : LateTo xss ts es t (k + 1) ls) : LateIn xss ts es t k 0 ls := ⟨h, by simp⟩
theorem lateIn_end {xss : List (List Int)} {ts es ls l : List Int} {t : Int} {k : Nat} (hl : xss[k]? = some l) (h : LateIn xss ts es t k l.length ls) : LateTo xss ts es t k ls := by
  obtain ⟨⟨h1, h2, h3⟩, h4⟩ := h
  refine ⟨h1, h2, fun j l' x hj hl' hx => ?_⟩
  by_cases e : j = k
  · subst e
    have := h4 l' x hl' hx
    rw [hl] at hl'
    cases hl'
    simpa using this
  · exact h3 j l' x (by omega) hl' hx

theorem lateIn_step {xss : List (List Int)} {ts es ls l : List Int} {t a b c : Int} {k i x : Nat} (hV : Valid xss) (hD : Durs xss ts) (hEa : Early xss ts es) (hlen : es.length = xss.length) (h : LateIn xss ts es t k i ls) (hl : xss[k]? = some l) (hx : l[i]? = some (x : Int))
    (ha : ls[x]? = some a) (hb : ls[k]? = some b) (hc : ts[x]? = some c) : LateIn xss ts es t k (i + 1) (ls.set x (min a (b - c))) := by
  obtain ⟨⟨h1, h2, h3⟩, h4⟩ := h
  obtain ⟨x1, x2⟩ := (hV.2 k l hl).1 i _ hx
  have hmono : ∀ z : Int, Ends (ls.set x (min a (b - c))) ts z ≤ Ends ls ts z := by
    intro z
    unfold Ends
    by_cases e : z.toNat = x
    · have hlt := lt_of_at ha
      simp only [List.getD, e, List.getElem?_set_self hlt, ha, Option.getD_some]
      omega
    · simp only [List.getD, List.getElem?_set_ne (Ne.symm e)]; omega
  have hkeep : ∀ (j : Nat) (y : Int), k ≤ j → (ls.set x (min a (b - c)))[j]? = some y → ls[j]? = some y := by
    intro j y hj hy
    rwa [List.getElem?_set_ne (by omega)] at hy
  refine ⟨⟨by simpa using h1, fun j e y z he hy hz => ?_, fun j l' y hj hl' hy z hz => ?_⟩, fun l' y hl' hy z hz => ?_⟩
  · by_cases e' : j = x
    · subst e'
      have hlt := lt_of_at ha
      rw [List.getElem?_set_self hlt] at hy
      cases hy
      obtain ⟨p1, p2⟩ := h2 j e a z he ha hz
      rw [hc] at hz; cases hz
      refine ⟨?_, by omega⟩
      obtain ⟨ek, hek⟩ := some_at (l := es) (k := k) (by have := lt_of_at hl; omega)
      obtain ⟨_, m2, _⟩ := (hEa.2 k l ek hl hek).1
      have m3 := m2 (j : Int) (List.mem_of_getElem? hx)
      unfold Ends at m3
      simp only [List.getD, Int.toNat_natCast, he, hc, Option.getD_some] at m3
      obtain ⟨tk, htk⟩ : ∃ tk, ts.getD k 0 = tk := ⟨_, rfl⟩
      have hbk : ek ≤ b := by
        obtain ⟨y, hy⟩ := some_at (l := ts) (k := k) (by have := lt_of_at hl; have := hD.1; omega)
        exact (h2 k ek b y hek hb hy).1
      omega
    · rw [List.getElem?_set_ne (by omega)] at hy
      exact h2 j e y z he hy hz
  · exact Int.le_trans (hmono z) (h3 j l' y hj hl' (hkeep j y (by omega) hy) z hz)
  · have hy' := hkeep k y (Nat.le_refl _) hy
    rw [hl] at hl'; cases hl'
    rw [List.take_add_one, hx] at hz
    rcases List.mem_append.1 hz with hz | hz
    · exact Int.le_trans (hmono z) (h4 l y hl hy' z hz)
    · have : z = (x : Int) := by simpa using hz
      subst this
      rw [hb] at hy'; cases hy'
      have hlt := lt_of_at ha
      unfold Ends
      simp only [List.getD, Int.toNat_natCast, List.getElem?_set_self hlt, hc, Option.getD_some]
      omega

set_option maxHeartbeats 1000000 in
set_option maxRecDepth 100000 in
theorem latest_ok (A B : Option Addr) (c d m : Nat) (xss : List (List Int)) (ts : List Int) (w : World) (hm : ts.length = m) (hR : RII w A xss) (hV : Valid xss) (hT : RI w B ts) (hD : Durs xss ts) :
    Calls Try.prog 11 #[.slice A xss.length c, .slice B m d] w fun e w' => ∃ g es ls t, e = .returned (.tuple #[.slice (some ⟨g, 0, none⟩) ls.length ls.length, .int .i64 0]) ∧
      es.length = xss.length ∧ Early xss ts es ∧ IsEnd ts es t ∧ LateTo xss ts es t 0 ls ∧ Arr w' g 3 ls ∧ w.heap.size ≤ g ∧ Below w.heap.size w w' := by
  subst hm
  have hlen := hV.1
  have hdl := hD.1
  have HV := Lib.hid hV
  have HD := Lib.hid hD
  have HR := Lib.hid hR
  have HT := Lib.hid hT
  clear hV hD hR hT
  have Hdl := Lib.hid hdl
  have hmk := run_make_row' (P := Try.prog) 22 3 (.int .i64 0) 8 Try.underlying22 info_int rfl .i64 .i64 xss.length (by omega) (by omega)
  have hle : ts.length ≤ 40 := by omega
  clear hdl
  go_enter Try.func11, Try.ntmps11
  go_wp2_with (go_at_call 10; refine (times_ok _ _ _ _ _ _ _ _ rfl HR.out HV.out HT.out HD.out).mono ?_; rintro e w1 ⟨v1, es, t, rfl, hes, hea, hen, how, hbel⟩; have Hes := Lib.hid hes; have Hea := Lib.hid hea; have Hen := Lib.hid hen; have Hbel := Lib.hid hbel; clear hes hea hen how hbel)
  obtain ⟨g, hg⟩ : ∃ g, g = w1.heap.size := ⟨_, rfl⟩
  have hgw : w.heap.size ≤ g := by have := Hbel.out.size; omega
  rw [← hg]
  have A0 := Lib.hid (Arr.made (t := 3) w1 xss.length)
  rw [← hg] at A0
  have B0 := Lib.hid (Hbel.out.alloc Hbel.out.size (.cells (madeCells #[.int .i64 0] xss.length) 3))
  clear hg hmk
  have ht0 := Hen.out.1
  have ht1 := Hen.out.2.1
  go_loopw [29] (fun i wr => ∃ (k : Nat) (ls : List Int), k ≤ xss.length ∧ i = .int .i64 k ∧ Hid (ls.length = xss.length ∧ ∀ (j : Nat) (x y : Int), j < k → ls[j]? = some x → ts[j]? = some y → x = t - y) ∧ Arr wr g 3 ls ∧ Below w.heap.size w wr) (fun i _ => xss.length - (intOf i).toNat)
  case atStart => exact ⟨0, _, by omega, rfl, ⟨by simp, fun j x y hj => absurd hj (by omega)⟩, A0.out, B0.out⟩
  case round =>
    obtain ⟨k, ls, hk, rfl, hls, harr, hbel⟩ := hrel
    have Harr := Lib.hid harr
    have Hbl := Lib.hid hbel
    clear harr hbel A0 B0
    by_cases hlt : k < xss.length
    · obtain ⟨y, hy⟩ := some_at (l := ts) (k := k) (by have := Hdl.out; omega)
      obtain ⟨b', o', rfl, hb', hc'⟩ := HT.out (by have := Hdl.out; omega)
      have hkt : k < ts.length := by have := Hdl.out; omega
      have c1 := (HT.out.below (Hbl.out.mono (Nat.le_refl _))).at_ hy
      obtain ⟨y1, y2⟩ := HD.out.2 k y hy
      obtain ⟨x, hx⟩ := some_at (l := ls) (k := k) (by have := hls.out.1; omega)
      have c2 := Harr.out.at_ hx
      have c3 := Harr.out.frozen k
      have Hy := Lib.hid hy
      clear hc' hx hy
      go_wp2
      go_roundw
      case rel =>
        refine ⟨k + 1, ls.set k (t - y), by omega, by go_num, ⟨by simpa using hls.out.1, fun j x' y' hj hx' hy' => ?_⟩, Harr.out.set_ _ _, Hbl.out.setCell hgw _⟩
        by_cases e : j = k
        · subst e
          rw [Hy.out] at hy'; cases hy'
          rw [List.getElem?_set_self (by have := hls.out.1; omega)] at hx'
          cases hx'; rfl
        · rw [List.getElem?_set_ne (by omega)] at hx'
          exact hls.out.2 j x' y' (by omega) hx' hy'
      case measure => simp [intOf]; omega
    · have hkn : k = xss.length := by omega
      have hl0 : Hid (LateTo xss ts es t xss.length ls) := late_start HD.out hls.out.1 Hen.out fun j x y hx hy => hls.out.2 j x y (by have := lt_of_at hx; have := hls.out.1; omega) hx hy
      clear hkn hls
      obtain ⟨wo, hwo⟩ : ∃ wo : World, wo = wr := ⟨_, rfl⟩
      subst hwo
      go_wp2_with fail
      go_loopw [11] (fun i wr => ∃ (m : Nat) (ls : List Int), m ≤ xss.length ∧ i = .int .i64 ((m : Int) - 1) ∧ Hid (LateTo xss ts es t m ls) ∧ Arr wr g 3 ls ∧ Below w.heap.size w wr) (fun i _ => (intOf i + 1).toNat)
      case atStart => exact ⟨_, ls, Nat.le_refl _, by go_num, hl0, Harr.out, Hbl.out⟩
      case round =>
        clear hl0 Harr Hbl
        obtain ⟨m, ls, hm, rfl, hls, harr, hbel⟩ := hrel
        have Harr := Lib.hid harr
        have Hbl := Lib.hid hbel
        clear harr hbel
        rcases m with _ | k
        · go_wp2
          go_ret2
          exact ⟨g, es, ls, t, by rw [hls.out.1]; rfl, Hes.out, Hea.out, Hen.out, hls.out, Harr.out, hgw, Hbl.out⟩
        · have hlt : k < xss.length := by omega
          obtain ⟨l, hl⟩ := some_at hlt
          obtain ⟨b, o, rfl, hb, hc⟩ := HR.out (by omega)
          obtain ⟨Aj, cj, h1', h2⟩ := hc _ l hl
          have h1 := (Hbl.out.cell (p := ⟨b, o + k, none⟩) hb).trans h1'
          have hll := HV.out.len hl
          have H2 := Lib.hid h2
          have Hl := Lib.hid hl
          have e1 : ((k + 1 : Nat) : Int) - 1 = (k : Int) := by omega
          rw [e1]
          clear e1 hc h2 hl h1'
          go_wp2_with fail
          obtain ⟨wq, hwq⟩ : ∃ wq : World, wq = wr := ⟨_, rfl⟩
          subst hwq
          go_loopw [54] (fun i wr => ∃ (i' : Nat) (ls : List Int), i' ≤ l.length ∧ i = .int .i64 i' ∧ Hid (LateIn xss ts es t k i' ls) ∧ Arr wr g 3 ls ∧ Below w.heap.size w wr) (fun i _ => l.length - (intOf i).toNat)
          case atStart => exact ⟨0, ls, by omega, rfl, lateIn_start hls.out, Harr.out, Hbl.out⟩
          case round =>
            obtain ⟨i, ls, hil, rfl, hls, harr, hbel⟩ := hrel
            have Harr := Lib.hid harr
            have Hbl := Lib.hid hbel
            clear harr hbel
            by_cases hlt' : i < l.length
            · obtain ⟨x, hx⟩ := some_at hlt'
              obtain ⟨v1, v2⟩ := (HV.out.2 _ _ Hl.out).1 i x hx
              obtain ⟨x, rfl⟩ := Int.eq_ofNat_of_zero_le v1
              obtain ⟨p, hp⟩ := some_at (l := ls) (k := x) (by have := hls.out.1.1; omega)
              obtain ⟨q, hq⟩ := some_at (l := ls) (k := k) (by have := hls.out.1.1; omega)
              obtain ⟨r, hr⟩ := some_at (l := ts) (k := x) (by have := HD.out.1; omega)
              obtain ⟨b', o', rfl, hb', hc'⟩ := HT.out (by have := Hdl.out; omega)
              obtain ⟨b'', o'', rfl, hb'', hc''⟩ := (H2.out) (by omega)
              have c1 := (HT.out.below (Hbl.out.mono (Nat.le_refl _))).at_ hr
              have c2 := Harr.out.at_ hp
              have c3 := Harr.out.at_ hq
              have c4 := Harr.out.frozen x
              have c5 := (H2.out.below (Hbl.out.mono (Nat.le_refl _))).at_ hx
              have hstep : Hid (LateIn xss ts es t k (i + 1) (ls.set x (if q - r < p then q - r else p))) := by
                rw [show (if q - r < p then q - r else p) = min p (q - r) by split <;> omega]
                exact lateIn_step HV.out HD.out Hea.out Hes.out hls.out Hl.out hx hp hq hr
              have p0 : 0 ≤ p ∧ p ≤ 80000 := by
                obtain ⟨e1, he1⟩ := some_at (l := es) (k := x) (by have := Hes.out; omega)
                obtain ⟨y1, y2⟩ := hls.out.1.2.1 x e1 p r he1 hp hr
                obtain ⟨z1, z2⟩ := HD.out.2 x r hr
                obtain ⟨lx, hlx⟩ := some_at (l := xss) (k := x) (by omega)
                have := (Hea.out.2 x lx e1 hlx he1).1.1
                omega
              have q0 : 0 ≤ q ∧ q ≤ 80000 := by
                obtain ⟨e1, he1⟩ := some_at (l := es) (k := k) (by have := Hes.out; omega)
                obtain ⟨r', hr'⟩ := some_at (l := ts) (k := k) (by have := HD.out.1; omega)
                obtain ⟨y1, y2⟩ := hls.out.1.2.1 k e1 q r' he1 hq hr'
                obtain ⟨z1, z2⟩ := HD.out.2 k r' hr'
                have := (Hea.out.2 k l e1 Hl.out he1).1.1
                omega
              obtain ⟨r0, r1⟩ := HD.out.2 x r hr
              obtain ⟨p0, p1⟩ := p0
              obtain ⟨q0, q1⟩ := q0
              have hxl : (x : Int) < (xss.length : Int) := by omega
              have hxt : (x : Int) < (ts.length : Int) := by have := Hdl.out; omega
              have hkl : (k : Int) < (xss.length : Int) := by omega
              clear hc' hc'' hx hp hq hr v1 v2
              go_wp2
              go_still_tail 17, (by kernel_rfl)
              go_wp2
              go_roundw
              case rel =>
                refine ⟨i + 1, _, by omega, by go_num, hstep, (Harr.out.set_ _ _).drew, (Hbl.out.setCell hgw _).drew⟩
              case measure => simp [intOf]; omega
            · have hil' : i = l.length := by omega
              subst hil'
              go_wp2
              go_roundw
              case rel => exact ⟨k, ls, by omega, by go_num, lateIn_end Hl.out hls.out, Harr.out, Hbl.out⟩
              case measure => simp [intOf]

theorem early_uniq {xss : List (List Int)} {ts es es' : List Int} (hV : Valid xss) (h : Early xss ts es) (h' : Early xss ts es') (hl : es.length = xss.length) (hl' : es'.length = xss.length) : es = es' := by
  have key : ∀ n : Nat, ∀ k, k < n → es[k]? = es'[k]? := by
    intro n
    induction n with
    | zero => intro k hk; omega
    | succ n ih =>
      intro k hk
      by_cases hlt : k < xss.length
      · obtain ⟨l, hx⟩ := some_at hlt
        obtain ⟨a, ha⟩ := some_at (l := es) (k := k) (by omega)
        obtain ⟨b, hb⟩ := some_at (l := es') (k := k) (by omega)
        have e : a = b := ((h.2 k l a hx ha).1).uniq (h'.2 k l b hx hb).1 (fun x hxm => by
          obtain ⟨i, hi⟩ := List.getElem?_of_mem hxm
          obtain ⟨q1, q2⟩ := (hV.2 k l hx).1 i x hi
          unfold Ends
          simp only [List.getD]
          rw [ih x.toNat (by omega)])
        rw [ha, hb, e]
      · rw [List.getElem?_eq_none (by omega), List.getElem?_eq_none (by omega)]
  exact List.ext_getElem? fun k => key (k + 1) k (by omega)
theorem isEnd_uniq {ts es : List Int} {a b : Int} (h : IsEnd ts es a) (h' : IsEnd ts es b) : a = b := by
  obtain ⟨a0, _, a1, a2⟩ := h
  obtain ⟨b0, _, b1, b2⟩ := h'
  have x : a ≤ b := by
    rcases a2 with e | ⟨k, x, hk, e⟩
    · omega
    · have := b1 k x hk; omega
  have y : b ≤ a := by
    rcases b2 with e | ⟨k, x, hk, e⟩
    · omega
    · have := a1 k x hk; omega
  omega
end Go.Proofs.Ytnmngjikcimpnaa
