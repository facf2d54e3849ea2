/- The walks of tools.Busy and gantkeep4.ToolsFirstFree. -/
import Derived.Test.YtnmngjikcimpnaaTEnd
namespace Go.Proofs.Ytnmngjikcimpnaa
open Go.RowKit
set_option linter.unusedVariables false

set_option maxHeartbeats 4000000 in
set_option maxRecDepth 100000 in
theorem busy_none (A : Option Addr) (c n : Nat) (us : List Use) (t f e : Int) (w : World) (hn : us.length = n) (hc : n ≤ c) (hR : RU w A us) (hg : Good us) (hf : 0 ≤ f) (hfe : f ≤ e) (he : e ≤ 4000)
    (hno : ∀ v ∈ us, v.tool = t → v.from_ + v.long ≤ f ∨ e ≤ v.from_) :
    Calls Try.prog 18 #[.slice A n c, .int .i64 t, .int .i64 f, .int .i64 e] w fun ee w' => ee = .returned (.tuple #[.int .i64 0, .int .i64 0]) ∧ Below w.heap.size w w' := by
  subst hn
  have h60 := hg.1
  have HR := Lib.hid hR
  have HG := Lib.hid hg
  have HN := Lib.hid hno
  clear hR hg hno
  go_enter Try.func18, Try.ntmps18
  go_wp2_with fail
  refine (checkU_any _ _ _ us _ rfl hc (by unfold maxLen; omega) HR.out).mono ?_
  rintro ee w1 ⟨r, rfl, hr, hb1⟩
  obtain rfl := hr.1 HG.out
  have B1 := Lib.hid hb1
  have R1 := Lib.hid (HR.out.below hb1)
  have hs1 := hb1.size
  clear hr hb1
  go_wp2_with fail
  go_loopw [11, 21] (fun a i wr => ∃ (k : Nat), k ≤ us.length ∧ i = .int .i64 k ∧ a = .int .i64 0 ∧ Below w1.heap.size w1 wr) (fun _ i _ => us.length - (intOf i).toNat)
  case atStart => exact ⟨0, by omega, rfl, rfl, Below.refl _ _⟩
  case round =>
    obtain ⟨k, hk, rfl, rfl, hbl⟩ := hrel
    have Hbl := Lib.hid hbl
    have hs := hbl.size
    clear hbl
    by_cases hlt : k < us.length
    · obtain ⟨v, hv⟩ := some_at hlt
      obtain ⟨b, o, rfl, hb, hc'⟩ := R1.out (by omega)
      obtain ⟨c1', c2', c3'⟩ := hc' k v hv
      have c1 := (Hbl.out.cell (p := ⟨b, _, none⟩) hb).trans c1'
      have c2 := (Hbl.out.cell (p := ⟨b, _, none⟩) hb).trans c2'
      have c3 := (Hbl.out.cell (p := ⟨b, _, none⟩) hb).trans c3'
      have hbr : b < wr.heap.size := by omega
      obtain ⟨v1, v2, v3, v4, v5, v6⟩ := (HG.out.2 k v hv).1
      have B2 := Lib.hid (Hbl.out.alloc hs (.cells #[.int .i64 v.tool, .int .i64 v.from_, .int .i64 v.long] 40))
      have hn2 := HN.out v (List.mem_of_getElem? hv)
      by_cases hvt : v.tool = t
      · have hq : (v.tool == t) = true := by simp [hvt]
        rcases hn2 hvt with h | h
        · clear hc' c1' c2' c3' hv hn2 hvt
          go_wp2_with fail
          all_goals
            go_roundw
            case rel => exact ⟨k + 1, by omega, by go_num, by first | rfl | (rw [ite_max]; congr 1; omega), B2.out⟩
            case measure => simp [intOf]; omega
        · clear hc' c1' c2' c3' hv hn2 hvt
          go_wp2_with fail
          all_goals
            go_roundw
            case rel => exact ⟨k + 1, by omega, by go_num, by first | rfl | (rw [ite_max]; congr 1; omega), B2.out⟩
            case measure => simp [intOf]; omega
      · have hq : (v.tool == t) = false := by simp [hvt]
        clear hc' c1' c2' c3' hv hn2 hvt
        go_wp2_with fail
        go_roundw
        case rel => exact ⟨k + 1, by omega, by go_num, by first | rfl | (rw [ite_max]; congr 1; omega), B2.out⟩
        case measure => simp [intOf]; omega
    · go_wp2_with fail
      go_ret2
      exact ⟨rfl, B1.out.trans (Hbl.out.mono hs1)⟩

/-- The next number of a stream turns no slice of uses. -/
theorem SU.next {B b : Nat} {w w' : World} {v : Value} {us : List Use} (h : SU w v us) (hs : Strm B w b) (hg : w.grownBy w' (some b)) : SU w' v us := by
  obtain ⟨A, c, h1, h2, h3, h4, h5⟩ := h
  obtain ⟨_, A', c', xs, hB, _⟩ := hs
  have hno : ∀ (p o : Nat) (x : Int), w.cell? ⟨p, o, none⟩ = some (.int .i64 x) → p < w.heap.size → w'.cell? ⟨p, o, none⟩ = some (.int .i64 x) := by
    intro p o x hc hp
    have hne : p ≠ b := by
      rintro rfl
      rw [hB.cell] at hc
      rcases o with _ | o <;> simp at hc
    exact (World.cell?_of_block (hg.block p hp (by simpa using hne))).trans hc
  refine ⟨A, c, h1, h2, fun hp => ?_, h4, fun a ha => ⟨(h5 a ha).1, by have := (h5 a ha).2; have := hg.size; omega⟩⟩
  obtain ⟨p, o, rfl, hlt, hc⟩ := h3 hp
  refine ⟨p, o, rfl, by have := hg.size; omega, fun j u hu => ?_⟩
  obtain ⟨e1, e2, e3⟩ := hc j u hu
  exact ⟨hno _ _ _ e1 hlt, hno _ _ _ e2 hlt, hno _ _ _ e3 hlt⟩

/-- The uses that the law books. -/
def Small (us : List Use) (k : Nat) : Prop := us.length ≤ k ∧ ∀ v ∈ us, 0 ≤ v.tool ∧ v.tool < 2 ∧ 0 ≤ v.from_ ∧ v.from_ < 60 ∧ 1 ≤ v.long ∧ v.long ≤ 10

theorem first_books {us : List Use} {t f l x : Int} (hg : Good us) (hl : us.length < 60) (hi : IsFirst us t f l x) (hu : Use.ok ⟨t, f, l⟩) (hx : x ≤ 200) (hl2 : l ≤ 20) {y : Int} (h1 : f ≤ y) (h2 : y ≤ x) :
    Good (us ++ [⟨t, y, l⟩]) ↔ y = x := by
  constructor
  · intro h
    by_cases e : y = x
    · exact e
    · obtain ⟨v, hv, hm⟩ := hi.2.2.1 y h1 (by omega)
      obtain ⟨j, hj⟩ := List.getElem?_of_mem hv
      have hlt := lt_of_at hj
      exact absurd hm ((h.2 us.length ⟨t, y, l⟩ (by simp)).2 j v hlt (by rw [List.getElem?_append_left hlt]; exact hj))
  · rintro rfl
    obtain ⟨u1, u2, u3, u4, u5, u6⟩ := hu
    dsimp only at u1 u2 u3 u4 u5 u6
    exact good_snoc hg hl ⟨u1, u2, by dsimp only; omega, u4, u5, by dsimp only; omega⟩ hi.2.1

set_option maxHeartbeats 8000000 in
set_option maxRecDepth 100000 in
theorem free_ok (A0 : Option Addr) (n0 c0 : Nat) (z0 : List Int) (q1 q2 q3 : Int) (w : World) (h0 : IntArg w A0 n0 c0 z0)
    (a1 : -9223372036854775808 ≤ q1) (a2 : q1 ≤ 9223372036854775807) (b1 : -9223372036854775808 ≤ q2) (b2 : q2 ≤ 9223372036854775807) (d1 : -9223372036854775808 ≤ q3) (d2 : q3 ≤ 9223372036854775807) :
    Calls Try.prog 5 #[.slice A0 n0 c0, .int .i64 q1, .int .i64 q2, .int .i64 q3] w fun e w' => e = .returned (.bool true) ∧ Below w.heap.size w w' := by
  have S0 := Lib.hid h0.strm
  have B0 := Lib.hid ((Below.refl w.heap.size w).alloc (Nat.le_refl _) (.cells #[.slice A0 n0 c0] 27))
  clear h0
  obtain ⟨b, hb⟩ : ∃ b, b = w.heap.size := ⟨_, rfl⟩
  have Hb := Lib.hid hb
  have hbw := Nat.le_of_eq hb.symm
  clear hb
  go_enter Try.func5, Try.ntmps5
  go_wp2_with fail
  refine (next_any _ _ _ _ S0.out (by omega) (by omega)).mono ?_
  rintro e w1 ⟨r, rfl, hr0, hr1, hs1, hg1⟩
  have S1 := Lib.hid hs1
  have B1 := Lib.hid (B0.out.grown hg1 (by simp) (fun k hk => by cases hk; exact Nat.le_refl _))
  obtain ⟨r, rfl⟩ := Int.eq_ofNat_of_zero_le hr0
  clear hs1 hg1
  go_wp2_with fail
  rw [← Hb.out] at S1 ⊢
  go_loopw [9, 26] (fun v i wr => ∃ (k : Nat) (us : List Use), k ≤ r ∧ i = .int .i64 k ∧ SU wr v us ∧ Hid (Good us ∧ Small us k) ∧ Strm w.heap.size wr b ∧ Below w.heap.size w wr) (fun _ i _ => r - (intOf i).toNat)
  case atStart => exact ⟨0, [], by omega, rfl, SU.nil _, ⟨⟨by simp, by simp⟩, by simp, by simp⟩, by rw [Hb.out] at S1 ⊢; exact S1.out, B1.out⟩
  case round =>
    obtain ⟨k, us, hk, rfl, hsu, hgs, hst, hbl⟩ := hrel
    have HSU := Lib.hid hsu
    have Hst := Lib.hid hst
    have Hbl := Lib.hid hbl
    clear hsu hst hbl
    have hul : us.length ≤ 8 := by have := hgs.out.2.1; omega
    obtain ⟨A, c, rfl, hc, hRU, _, _⟩ := HSU.out
    have HRU := Lib.hid hRU
    clear hRU
    by_cases hlt : k < r
    · go_wp2_with fail
      refine (next_any _ _ _ _ Hst.out (by omega) (by omega)).mono ?_
      rintro e w2 ⟨x1, rfl, x10, x11, hs2, hg2⟩
      have S2 := Lib.hid hs2
      have U2 := Lib.hid (HSU.out.next Hst.out hg2)
      have B2 := Lib.hid (Hbl.out.grown hg2 Hbl.out.size (fun k hk => by cases hk; omega))
      clear hs2 hg2
      go_wp2_with fail
      refine (next_any _ _ _ _ S2.out (by omega) (by omega)).mono ?_
      rintro e w3 ⟨x2, rfl, x20, x21, hs3, hg3⟩
      have S3 := Lib.hid hs3
      have U3 := Lib.hid (U2.out.next S2.out hg3)
      have B3 := Lib.hid (B2.out.grown hg3 B2.out.size (fun k hk => by cases hk; omega))
      clear hs3 hg3
      go_wp2_with fail
      refine (next_any _ _ _ _ S3.out (by omega) (by omega)).mono ?_
      rintro e w4 ⟨x3, rfl, x30, x31, hs4, hg4⟩
      have S4 := Lib.hid hs4
      have U4 := Lib.hid (U3.out.next S3.out hg4)
      have B4 := Lib.hid (B3.out.grown hg4 B3.out.size (fun k hk => by cases hk; omega))
      clear hs4 hg4
      go_wp2_with fail
      refine (book_any _ us ⟨x1, x2, 1 + x3⟩ _ U4.out hgs.out.1).mono ?_
      rintro e w5 ⟨v5, q, rfl, hq, hu5, hb5⟩
      have S5 := Lib.hid (S4.out.keep (hb5.mono B4.out.size) (hb5.block b S4.out.lt))
      have U5 := Lib.hid (U4.out.below hb5)
      have B5 := Lib.hid (B4.out.trans (hb5.mono B4.out.size))
      have Hq := Lib.hid hq
      have Hu5 : q = 0 → Hid (SU w5 v5 (us ++ [⟨x1, x2, 1 + x3⟩])) := hu5
      by_cases hz : q = 0
      · have Hz := Lib.hid (Hu5 hz).out
        have hgood : Hid (Good (us ++ [⟨x1, x2, 1 + x3⟩])) := Hq.out.2 hz
        have hqq : (q == 0) = true := by simp [hz]
        clear hb5 hu5 hq hz Hu5 Hq
        go_wp2_with fail
        go_roundw
        case rel =>
          refine ⟨k + 1, _, by omega, by go_num, Hz.out, ⟨hgood.out, by have := hgs.out.2.1; simp; omega, fun v hv => ?_⟩, S5.out, B5.out⟩
          rcases List.mem_append.1 hv with hv | hv
          · exact hgs.out.2.2 v hv
          · have : v = ⟨x1, x2, 1 + x3⟩ := by simpa using hv
            subst this
            dsimp only; omega
        case measure => simp [intOf]; omega
      · have hqq : (q == 0) = false := by simp [hz]
        clear hb5 hu5 hq hz Hu5 Hq
        go_wp2_with fail
        go_roundw
        case rel => exact ⟨k + 1, us, by omega, by go_num, U5.out, ⟨hgs.out.1, by have := hgs.out.2.1; omega, hgs.out.2.2⟩, S5.out, B5.out⟩
        case measure => simp [intOf]; omega
    · go_wp2_with fail
      clear hlt hk
      refine (below_any _ _ _ (by omega) a1 a2 (by omega)).mono ?_
      rintro e w2 ⟨rfl, rfl⟩
      have t0 := Int.emod_nonneg q1 (show (2 : Int) ≠ 0 by omega)
      have t1 := Int.emod_lt_of_pos q1 (show (0 : Int) < 2 by omega)
      generalize q1 % 2 = t at *
      go_wp2_with fail
      refine (below_any _ _ _ (by omega) b1 b2 (by omega)).mono ?_
      rintro e w2 ⟨rfl, rfl⟩
      have f0 := Int.emod_nonneg q2 (show (70 : Int) ≠ 0 by omega)
      have f1 := Int.emod_lt_of_pos q2 (show (0 : Int) < 70 by omega)
      generalize q2 % 70 = f at *
      go_wp2_with fail
      refine (below_any _ _ _ (by omega) d1 d2 (by omega)).mono ?_
      rintro e w2 ⟨rfl, rfl⟩
      have l0 := Int.emod_nonneg q3 (show (12 : Int) ≠ 0 by omega)
      have l1 := Int.emod_lt_of_pos q3 (show (0 : Int) < 12 by omega)
      generalize q3 % 12 = l' at *
      obtain ⟨l, hl⟩ : ∃ l, l = 1 + l' := ⟨_, rfl⟩
      have hlb : 1 ≤ l ∧ l ≤ 12 := by omega
      obtain ⟨hl1, hl2⟩ := hlb
      go_wp2_with fail
      rw [← hl]
      have Hl := Lib.hid hl
      clear hl
      have huok : Use.ok ⟨t, f, l⟩ := ⟨by dsimp only; omega, by dsimp only; omega, f0, hl1, by dsimp only; omega, by dsimp only; omega⟩
      have B2 := Lib.hid (Hbl.out.alloc Hbl.out.size (.cells #[.int .i64 t, .int .i64 f, .int .i64 l] 40))
      have X2 := Lib.hid (Blk.new wr 40 #[.int .i64 t, .int .i64 f, .int .i64 l])
      have C2 := Lib.hid (Below.alloc (Below.refl wr.heap.size wr) (Nat.le_refl _) (.cells #[.int .i64 t, .int .i64 f, .int .i64 l] 40))
      have U2 := Lib.hid (HSU.out.below C2.out)
      obtain ⟨_, _, hv, _, hRU2, _, _⟩ := U2.out
      cases hv
      have HRU2 := Lib.hid hRU2
      refine (first_ok _ _ _ us t f l _ rfl hc HRU2.out hgs.out.1 huok (fun v hv => by have := hgs.out.2.2 v hv; omega)).mono ?_
      rintro e w3 ⟨x, rfl, hfi, hb3⟩
      have hx0 : f ≤ x := hfi.1
      have hx1 : x ≤ 200 := by
        rcases hfi.2.2.2 with h | ⟨v, hv, h⟩
        · omega
        · have := hgs.out.2.2 v hv; omega
      have Hfi := Lib.hid hfi
      have B3 := Lib.hid (B2.out.trans (hb3.mono B2.out.size))
      have X3 := Lib.hid (X2.out.below hb3 X2.out.lt)
      have U3 := Lib.hid (U2.out.below hb3)
      clear hRU2 hfi hb3
      go_wp2_with fail
      refine (tooled_ok _).mono ?_
      rintro e w4 ⟨rfl, hb4⟩
      have B4 := Lib.hid (B3.out.trans (hb4.mono B3.out.size))
      have X4 := Lib.hid (X3.out.below hb4 X3.out.lt)
      have U4 := Lib.hid (U3.out.below hb4)
      clear hb4
      have g0 := X4.out.cell 0
      have g1 := X4.out.cell 1
      have g2 := X4.out.cell 2
      have gx := X4.out.lt
      obtain ⟨bu, hbu⟩ : ∃ bu, bu = wr.heap.size := ⟨_, rfl⟩
      rw [← hbu] at X4 g0 g1 g2 gx ⊢
      clear hbu X3 U3 B3 X2 U2 B2 C2
      go_wp2_with fail
      obtain ⟨wo, hwo⟩ : ∃ wo : World, wo = w4 := ⟨_, rfl⟩
      subst hwo
      go_loopw [16] (fun a wr => ∃ (y : Int), f ≤ y ∧ y ≤ x + 1 ∧ a = .int .i64 y ∧ SU wr (.slice A us.length c) us ∧ Blk wr bu 40 #[.int .i64 t, .int .i64 f, .int .i64 l] ∧ Below w.heap.size w wr) (fun a _ => (x + 1 - intOf a).toNat)
      case atStart => exact ⟨f, by omega, by omega, rfl, U4.out, X4.out, B4.out⟩
      case round =>
        clear g0 g1 g2 gx
        obtain ⟨y, hy0, hy1, rfl, hsu, hX, hbl⟩ := hrel
        have U5 := Lib.hid hsu
        have X5 := Lib.hid hX
        have B5 := Lib.hid hbl
        have g0 := hX.cell 0
        have g2 := hX.cell 2
        have gx := hX.lt
        clear hsu hX hbl
        by_cases hyx : y ≤ x
        · go_wp2_with fail
          refine (book_any _ us ⟨t, y, l⟩ _ U5.out hgs.out.1).mono ?_
          rintro e w6 ⟨v6, q, rfl, hq, _, hb6⟩
          have U6 := Lib.hid (U5.out.below hb6)
          have X6 := Lib.hid (X5.out.below hb6 X5.out.lt)
          have B6 := Lib.hid (B5.out.trans (hb6.mono B5.out.size))
          have hqy : q = 0 ↔ y = x := hq.symm.trans (first_books hgs.out.1 (by omega) Hfi.out huok hx1 (by omega) hy0 hyx)
          have hqe : ∃ r : Bool, (q == 0) = r ∧ (y == x) = r := by
            by_cases e : y = x
            · exact ⟨true, beq_iff_eq.2 (hqy.2 e), beq_iff_eq.2 e⟩
            · exact ⟨false, beq_eq_false_iff_ne.2 (fun h => e (hqy.1 h)), beq_eq_false_iff_ne.2 e⟩
          obtain ⟨rr, k1, k2⟩ := hqe
          clear hb6 hq hqy
          cases rr
          all_goals
            go_wp2_with fail
            go_roundw
            case rel => exact ⟨y + 1, by omega, by omega, rfl, U6.out, X6.out, B6.out⟩
            case measure => simp [intOf]; omega
        · have hyx' : y = x + 1 := by omega
          obtain ⟨_, _, hv, _, hRU5, _, _⟩ := U5.out
          cases hv
          have HRU5 := Lib.hid hRU5
          clear hRU5 hyx' 
          have hno : Hid (∀ v ∈ us, v.tool = t → v.from_ + v.long ≤ x ∨ x + l ≤ v.from_) := by
            intro v hv hvt
            have := Hfi.out.2.1 v hv
            unfold Use.meets at this
            dsimp only at this
            omega
          go_wp2_with fail
          refine (busy_none _ _ _ us t x (x + l) _ rfl hc HRU5.out hgs.out.1 (by omega) (by omega) (by omega) hno.out).mono ?_
          rintro e w6 ⟨rfl, hb6⟩
          have B6 := Lib.hid (B5.out.trans (hb6.mono B5.out.size))
          clear hb6
          go_wp2_with fail
          go_ret
          exact ⟨rfl, B6.out⟩
end Go.Proofs.Ytnmngjikcimpnaa
