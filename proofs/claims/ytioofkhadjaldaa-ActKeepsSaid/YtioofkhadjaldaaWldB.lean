/- The walk of gantkeep4.World: the parts' loop. -/
import Derived.Test.YtioofkhadjaldaaWldA
import Derived.Test.YtioofkhadjaldaaActK
namespace Go.Proofs.Ytioofkhadjaldaa
open Go.RowKit
open Go.Maps (Keyed)
set_option linter.unusedVariables false
set_option maxRecDepth 100000

def fP (ps : List Int) : Int → Bool := fun y => decide (y ≠ -1 ∧ y ∈ ps)
theorem fP_snoc (ps : List Int) (u : Int) (c : Bool) (hc : c = decide (u ≠ -1)) : (fun y => if y = u then c else fP ps y) = fP (ps ++ [u]) := by
  funext y
  unfold fP
  by_cases e : y = u
  · subst e
    rw [if_pos rfl, hc]
    by_cases h : y = -1 <;> simp [h]
  · rw [if_neg e]
    simp [e]
structure PlOk (na ns : Nat) (ps : List Int) : Prop where
  rg : ∀ p ∈ ps, p < ns ∧ -1 - (na : Int) ≤ p
  di : Dis ps
theorem Dis.snoc {l : List Int} (h : Dis l) {u : Int} (hu : u = -1 ∨ u ∉ l) : Dis (l ++ [u]) := by
  intro i j p hij hi hj
  have hjl := lt_of_at hj
  simp at hjl
  have hil : i < l.length := by omega
  rw [List.getElem?_append_left hil] at hi
  by_cases e : j < l.length
  · rw [List.getElem?_append_left e] at hj
    exact h i j p hij hi hj
  · have : j = l.length := by omega
    subst this
    simp at hj
    subst hj
    rcases hu with hu | hu
    · exact hu
    · exact absurd (List.mem_of_getElem? hi) hu
theorem PlOk.snoc {na ns : Nat} {ps : List Int} (h : PlOk na ns ps) {u : Int} (h1 : u < ns) (h2 : -1 - (na : Int) ≤ u) (hu : u = -1 ∨ u ∉ ps) : PlOk na ns (ps ++ [u]) :=
  ⟨fun p hp => by
    rcases List.mem_append.1 hp with hp | hp
    · exact h.rg p hp
    · simp at hp; subst hp; exact ⟨h1, h2⟩, h.di.snoc hu⟩
theorem fP_no {ps : List Int} {u : Int} (h : fP ps u = false) : u = -1 ∨ u ∉ ps := by
  unfold fP at h
  by_cases e : u = -1
  · exact .inl e
  · exact .inr (fun hm => by simp [e, hm] at h)
theorem wf_small {x : Int} (h1 : -1000 ≤ x) (h2 : x ≤ 1000) : (Lit.int .i64 x).wf = true := by
  simp [Lit.wf, IntKind.min, IntKind.max, IntKind.signed, IntKind.bits]; omega
theorem fP_nil {w : World} {b : Nat} (h : BM w b 0 (fun _ => false)) : Hid (BM w b 0 (fP [])) := by
  have e : fP [] = fun _ => false := by funext y; simp [fP]
  unfold Hid
  rw [e]; exact h
structure SpOk (np ns : Nat) (qs : List Int) : Prop where
  rg : ∀ s ∈ qs, -1 ≤ s ∧ (s < ns ∨ 8 ≤ s) ∧ s < 8 + (np : Int)
  di : Dis qs
theorem SpOk.snoc {np ns : Nat} {qs : List Int} (h : SpOk np ns qs) {u : Int} (h1 : -1 ≤ u ∧ (u < ns ∨ 8 ≤ u) ∧ u < 8 + (np : Int)) (hu : u = -1 ∨ u ∉ qs) : SpOk np ns (qs ++ [u]) :=
  ⟨fun p hp => by
    rcases List.mem_append.1 hp with hp | hp
    · exact h.rg p hp
    · simp at hp; subst hp; exact h1, h.di.snoc hu⟩
theorem PW.rebase {h : Nat} {w0 w : World} {na np ns : Nat} {A P S : Option Addr} {ca cp cs : Nat} {ps : List Int} {ss : List Bool} {hs hs' : Nat} {A1 A2 : Option Addr} {c1 c2 : Nat} (p : PW h w0 w na np ns A P S ca cp cs ps ss [] hs A1 A2 none c1 c2 0) (hh : h ≤ hs') :
    PW h w0 w na np ns A P S ca cp cs ps ss [] hs' A1 A2 none c1 c2 0 := ⟨p.X, p.Z, p.st, p.T, p.op, p.os, World.ownsRow_nil _ _ _ _, hh, p.B⟩
theorem own_apart {a b : Value} (h : ∀ j, a.ownBlock = some j → b.ownBlock ≠ some j) : a.ownBlock = none ∨ a.ownBlock ≠ b.ownBlock := by
  cases ha : a.ownBlock with
  | none => exact .inl rfl
  | some j => exact .inr fun e => h j ha e.symm
theorem own_set4 {w : World} {t : TypeId} {cs' : Array Value} {g base n size : Nat} {e : TypeId} {v : Value} {xs : List Value} (ho : w.ownsRow base e size v n xs) (hg : Blk w g t cs') (hne : e ≠ t) (u0 u1 u2 u3 : Value) : (set4 w g u0 u1 u2 u3).ownsRow base e size v n xs :=
  own_set_far (own_set_far (own_set_far (own_set_far ho hg hne 0 u0) (hg.set_ 0 u0) hne 1 u1) ((hg.set_ 0 u0).set_ 1 u1) hne 2 u2) (((hg.set_ 0 u0).set_ 1 u1).set_ 2 u2) hne 3 u3
/-- A place that may be taken next. -/
def AtOk (na ns : Nat) (ps : List Int) (u : Int) : Prop := u < ns ∧ -1 - (na : Int) ≤ u ∧ (u = -1 ∨ u ∉ ps)

set_option maxHeartbeats 20000000 in
theorem World_any (na np ns : Nat) (A P S : Option Addr) (ca cp cs : Nat) (AL : Option Addr) (n c : Nat) (xs : List Int) (w : World) (hi : IntArg w AL n c xs) (ha : 1 ≤ na ∧ na ≤ 2) (hp : 1 ≤ np ∧ np ≤ 2) (hs : 1 ≤ ns ∧ ns ≤ 2) :
    Calls Try.prog 7 #[.agg (worksV na np ns A P S ca cp cs), .slice AL n c] w fun e w' => ∃ (x : AW) (g1 g2 g3 d1 d2 d3 : Nat), e = .returned (.agg #[.int .i64 x.slots, .slice (some ⟨g1, 0, none⟩) np d1, .slice (some ⟨g2, 0, none⟩) np d2, .slice (some ⟨g3, 0, none⟩) na d3]) ∧ OW w.heap.size w' x g1 g2 g3 np na d1 d2 d3 ∧ ValidA x ∧ x.slots = ns ∧ Below w.heap.size w w' := by
  obtain ⟨ha1, ha2⟩ := ha
  obtain ⟨hp1, hp2⟩ := hp
  obtain ⟨hs1, hs2⟩ := hs
  have hmm := @run_makeMap Try.prog
  have HI := Lib.hid hi
  clear hi
  have B1 := Lib.hid ((Below.refl w.heap.size w).alloc (Nat.le_refl _) (.cells (worksV na np ns A P S ca cp cs) 35))
  have B2 := Lib.hid (B1.out.alloc B1.out.size (.cells #[.int .i64 0, .slice none 0 0, .slice none 0 0, .slice none 0 0] 25))
  have S3 := Lib.hid (((HI.out.strm' B2.out).alloc (.cells #[.int .i64 ns, .slice none 0 0, .slice none 0 0, .slice none 0 0] 25)).alloc (.map #[] 0))
  have B3 := Lib.hid (B2.out.alloc B2.out.size (.cells #[.slice AL n c] 72))
  have B4 := Lib.hid (B3.out.alloc B3.out.size (.cells #[.int .i64 ns, .slice none 0 0, .slice none 0 0, .slice none 0 0] 25))
  have B5 := Lib.hid (B4.out.alloc B4.out.size (.map #[] 0))
  have X1 := Lib.hid (((((Blk.new w 35 (worksV na np ns A P S ca cp cs)).alloc (.cells #[.int .i64 0, .slice none 0 0, .slice none 0 0, .slice none 0 0] 25)).alloc (.cells #[.slice AL n c] 72)).alloc (.cells #[.int .i64 ns, .slice none 0 0, .slice none 0 0, .slice none 0 0] 25)).alloc (.map #[] 0))
  have X2 := Lib.hid ((((Blk.new (w.alloc (.cells (worksV na np ns A P S ca cp cs) 35)) 25 #[.int .i64 0, .slice none 0 0, .slice none 0 0, .slice none 0 0]).alloc (.cells #[.slice AL n c] 72)).alloc (.cells #[.int .i64 ns, .slice none 0 0, .slice none 0 0, .slice none 0 0] 25)).alloc (.map #[] 0))
  have X4 := Lib.hid ((Blk.new (((w.alloc (.cells (worksV na np ns A P S ca cp cs) 35)).alloc (.cells #[.int .i64 0, .slice none 0 0, .slice none 0 0, .slice none 0 0] 25)).alloc (.cells #[.slice AL n c] 72)) 25 #[.int .i64 ns, .slice none 0 0, .slice none 0 0, .slice none 0 0]).alloc (.map #[] 0))
  have M5 := Lib.hid (BM.made ((((w.alloc (.cells (worksV na np ns A P S ca cp cs) 35)).alloc (.cells #[.int .i64 0, .slice none 0 0, .slice none 0 0, .slice none 0 0] 25)).alloc (.cells #[.slice AL n c] 72)).alloc (.cells #[.int .i64 ns, .slice none 0 0, .slice none 0 0, .slice none 0 0] 25)))
  simp only [World.size_alloc] at S3 X2 X4 M5
  have P5 : Hid (PW w.heap.size w (((((w.alloc (.cells (worksV na np ns A P S ca cp cs) 35)).alloc (.cells #[.int .i64 0, .slice none 0 0, .slice none 0 0, .slice none 0 0] 25)).alloc (.cells #[.slice AL n c] 72)).alloc (.cells #[.int .i64 ns, .slice none 0 0, .slice none 0 0, .slice none 0 0] 25)).alloc (.map #[] 0)) na np ns A P S ca cp cs [] [] [] w.heap.size none none none 0 0 0) :=
    ⟨X1.out, X2.out, S3.out, X4.out, World.ownsRow_nil _ _ _ _, World.ownsRow_nil _ _ _ _, World.ownsRow_nil _ _ _ _, Nat.le_refl _, B5.out⟩
  clear B1 B2 S3 B3 B4 B5 X1 X2 X4 HI
  go_enter Try.func7, Try.ntmps7
  go_wp2_with fail
  generalize hw5 : ((((w.alloc (.cells (worksV na np ns A P S ca cp cs) 35)).alloc (.cells #[.int .i64 0, .slice none 0 0, .slice none 0 0, .slice none 0 0] 25)).alloc (.cells #[.slice AL n c] 72)).alloc (.cells #[.int .i64 ns, .slice none 0 0, .slice none 0 0, .slice none 0 0] 25)).alloc (.map #[] 0) = w5 at P5 M5 ⊢
  clear hw5
  clear hmm
  go_loopw [23] (fun i wr => ∃ (k : Nat) (ps : List Int) (ss : List Bool) (A1 A2 : Option Addr) (c1 c2 : Nat), i = .int .i64 k ∧ k ≤ np ∧ ps.length = k ∧ ss.length = k ∧ Hid (PlOk na ns ps) ∧ Hid (PW w.heap.size w wr na np ns A P S ca cp cs ps ss [] w.heap.size A1 A2 none c1 c2 0) ∧ Hid (BM wr (w.heap.size + 1 + 1 + 1 + 1) k (fP ps))) (fun i _ => np - (intOf i).toNat)
  case atStart => exact ⟨0, [], [], none, none, 0, 0, rfl, by omega, rfl, rfl, ⟨by simp, by intro i j p _ h; simp at h⟩, P5, fP_nil M5.out⟩
  case round =>
    clear P5 M5
    obtain ⟨k, ps, ss, A1, A2, c1, c2, rfl, hk, hl1, hl2, HP, PP, MM⟩ := hrel
    have HL1 := Lib.hid hl1
    have HL2 := Lib.hid hl2
    have XX := PP.out.X
    have x0 : wr.cell? ⟨w.heap.size, 0, none⟩ = some (.slice A na ca) := XX.cell 0
    have x2 : wr.cell? ⟨w.heap.size, 2, none⟩ = some (.slice P np cp) := XX.cell 2
    have x3 : wr.cell? ⟨w.heap.size, 3, none⟩ = some (.slice S ns cs) := XX.cell 3
    clear XX hl1 hl2
    by_cases hlt : k < np
    · go_upto_if 39 with (first
          | (go_at_call 30; refine (next_any w.heap.size (w.heap.size + 1 + 1) _ _ PP.out.st (by omega) (by omega)).mono ?_; rintro e w6 ⟨r, rfl, hr0, hr1, hs6, hg6⟩; have P6 := Lib.hid (PP.out.next hs6 hg6); have M6 := Lib.hid (MM.out.next PP.out hg6); have x0' := P6.out.X.cell 0; have x3' := P6.out.X.cell 3; clear hs6 hg6))
      clear x0 x2 x3 PP MM
      go_cut [8] (fun s8 wx => ∃ u : Int, s8 = .int .i64 u ∧ Hid (u < ns ∧ -1 - (na : Int) ≤ u) ∧ wx = w6)
      case first =>
        go_wp2_with fail
        all_goals
          go_meet
          exact ⟨_, rfl, (show _ ∧ _ from ⟨by omega, by omega⟩), rfl⟩
      case rest =>
        obtain ⟨u, rfl, HU, rfl⟩ := hcut
        have hu1 := HU.out.1
        have hu2 := HU.out.2
        go_upto_if 58 with (at_lookup; refine wpList_lookup_bm _ rfl _ _ _ rfl Try.underlying73 (w.heap.size + 1 + 1 + 1 + 1) k (fP ps) rfl M6.out u rfl (wf_small (by omega) (by omega)) ?_)
        go_frame
        go_cut [8] (fun s8 wx => ∃ v : Int, s8 = .int .i64 v ∧ Hid (AtOk na ns ps v) ∧ wx = wc)
        case first =>
          go_wp2_with fail
          all_goals
            go_meet
            first
            | exact ⟨-1, rfl, (show AtOk na ns ps (-1) from ⟨by omega, by omega, .inl rfl⟩), rfl⟩
            | exact ⟨u, rfl, (show AtOk na ns ps u from ⟨hu1, hu2, fP_no (by assumption)⟩), rfl⟩
            | trace_state
        case rest =>
          clear HU hu1 hu2
          obtain ⟨v, rfl, HV, hwx⟩ := hcut
          subst hwx
          have hv1 := HV.out.1
          have hv2 := HV.out.2.1
          have hk1 : k < 1000 := by omega
          have hl1 : ps.length ≤ 2 := by have := HL1.out; omega
          have hl2 : ss.length ≤ 2 := by have := HL2.out; omega
          have LP : Hid (PlOk na ns (ps ++ [v])) := HP.out.snoc HV.out.1 HV.out.2.1 HV.out.2.2
          obtain ⟨i0, ii, iz0, iz1, iz2⟩ := info_parts info_int
          obtain ⟨j0, ji, jz0, jz1, jz2⟩ := info_parts info_bool
          obtain ⟨cc, hcc⟩ : ∃ cc, cc = decide (v ≠ -1) := ⟨_, rfl⟩
          have HC := Lib.hid hcc
          have hcc2 : (v != -1) = cc := by rw [hcc]; by_cases e : v = -1 <;> simp [e]
          clear hcc
          go_wp2_with (first
            | (at_mapUpdate; refine wpList_update_bm _ rfl _ _ _ _ rfl Try.underlying73 (w.heap.size + 1 + 1 + 1 + 1) k (fP ps) rfl M6.out hk1 v rfl (wf_small (by omega) (by omega)) cc rfl ?_; intro w7 hm7 hg7; have P7 := Lib.hid (P6.out.map M6.out (by omega) hg7); rw [fP_snoc ps v cc HC.out] at hm7; have M7 := Lib.hid hm7; clear hm7 hg7; have t1 := P7.out.T.cell 1)
            | (at_builtin; have KA := Lib.hid ((Below.refl w7.heap.size w7).alloc (Nat.le_refl _) (.cells #[.int .i64 v] 3)); have Q7 := Lib.hid (P7.out.keep KA.out); have N7 := Lib.hid (M7.out.below KA.out); clear KA; refine wpList_append_one _ rfl (.tmp 64) (.tmp 66) 22 rfl w.heap.size 3 i0 (.int .i64 0) 8 Try.underlying22 ii iz0 iz1 iz2 rfl (.slice A1 ps.length c1) ps.length _ rfl Q7.out.op w7.heap.size (.int .i64 v) rfl (World.cell?_alloc_at _ _ _ _ rfl) rfl (by unfold maxLen; omega) (by omega) Q7.out.le ?_; intro v8 w8 hown8 hg8; obtain ⟨B1, e1, hv8⟩ := own_slice hown8; subst hv8; have P8 := Lib.hid (Q7.out.place hown8 hg8 (.inl rfl)); have M8 := Lib.hid (N7.out.place Q7.out hg8 (.slice B1 (ps.length + 1) e1)); have t8 := (Q7.out.T.grown hg8 (own_blk_ne' Q7.out.T Q7.out.op (by decide))).cell 1; have g8 := (Q7.out.T.grown hg8 (own_blk_ne' Q7.out.T Q7.out.op (by decide))).frozen 1; clear hown8 hg8))
          clear t8 g8 t1
          generalize w8.setCell ⟨w.heap.size + 1 + 1 + 1, 1, none⟩ (.slice B1 (ps.length + 1) e1) = w9 at P8 M8 ⊢
          replace P8 := Lib.hid (P8.out.keep (Below.refl w9.heap.size w9).drew)
          replace M8 := Lib.hid (M8.out.below (Below.refl w9.heap.size w9).drew)
          have t2 := P8.out.T.cell 2
          go_region_law (first
            | (go_simp; go_at_call 30; refine (next_any w.heap.size (w.heap.size + 1 + 1) 2 _ P8.out.st (by omega) (by omega)).mono ?_; rintro e w10 ⟨r2, rfl, hq0, hq1, hs10, hg10⟩; have P10 := Lib.hid (P8.out.next hs10 hg10); have M10 := Lib.hid (M8.out.next P8.out hg10); have KA := Lib.hid ((Below.refl w10.heap.size w10).alloc (Nat.le_refl _) (.cells #[.bool (r2 == 1)] 4)); have Q10 := Lib.hid (P10.out.keep KA.out); have N10 := Lib.hid (M10.out.below KA.out); have t10 := P10.out.T.cell 2; have t11 := Q10.out.T.cell 2; clear hs10 hg10 KA)
            | (refine step_append_src _ rfl (.tmp 70) (.tmp 74) 23 rfl w.heap.size 4 j0 _ 1 1 Try.underlying23 ji jz0 jz1 jz2 rfl (by decide) (.slice A2 ss.length c2) ss.length _ rfl Q10.out.os 1 _ _ rfl (Src.new (m := 1) (c := 1) (size := 1) (Blk.new _ 4 #[.bool (r2 == 1)]) rfl) (by intro u hu; simp at hu; subst hu; rfl) (by unfold maxLen; omega) (by omega) Q10.out.le ?_; intro v11 w11 hown11 hg11; obtain ⟨B2, e2, hv11⟩ := own_slice hown11; subst hv11; have P11 := Lib.hid (Q10.out.seen (u := (r2 == 1)) hown11 hg11); have M11 := Lib.hid (N10.out.seen Q10.out hg11 (.slice B2 (ss.length + 1) e2)); have t12 := (Q10.out.T.grown hg11 (own_blk_ne' Q10.out.T Q10.out.os (by decide))).cell 2; have g12 := (Q10.out.T.grown hg11 (own_blk_ne' Q10.out.T Q10.out.os (by decide))).frozen 2; clear hown11 hg11))
          all_goals
            go_wp2_with fail
            go_roundw
            case rel => exact ⟨k + 1, ps ++ [v], _, B1, B2, e1, e2, by go_num, by omega, by simp [HL1.out], by simp [HL2.out], LP, P11, M11⟩
            case measure => simp [intOf]; omega
    · have hkn : k = np := by omega
      subst hkn
      have HB1 : Hid (∀ j, (Value.slice A1 ps.length c1).ownBlock = some j → j < wr.heap.size) := fun j hj => (PP.out.op.lt j hj).2
      have KM := Lib.hid ((Below.refl wr.heap.size wr).alloc (Nat.le_refl _) (.map #[] 0))
      have P1 := Lib.hid (PW.rebase (PP.out.keep KM.out) PP.out.le)
      have M1 := Lib.hid (fP_nil (BM.made wr))
      have hmm := @run_makeMap Try.prog
      have x0m := (PP.out.X.alloc (.map #[] 0)).cell 0
      clear MM KM
      go_wp2_with fail
      clear x0m
      obtain ⟨hs, hhs⟩ : ∃ hs, hs = wr.heap.size := ⟨_, rfl⟩
      generalize hw1 : wr.alloc (.map #[] 0) = w1 at P1 M1 ⊢
      simp only [← hhs] at HB1 P1 M1 ⊢
      clear hw1 hmm PP x0 x2 x3 hhs
      go_loopw [82] (fun i wr => ∃ (q : Nat) (qs : List Int) (A3 : Option Addr) (c3 : Nat), i = .int .i64 q ∧ q ≤ na ∧ qs.length = q ∧ Hid (SpOk k ns qs) ∧ Hid (PW w.heap.size w wr na k ns A P S ca cp cs ps ss qs hs A1 A2 A3 c1 c2 c3) ∧ Hid (BM wr hs q (fP qs))) (fun i _ => na - (intOf i).toNat)
      case atStart => exact ⟨0, [], none, 0, rfl, by omega, rfl, ⟨by simp, by intro i j p _ h; simp at h⟩, P1, M1.out⟩
      case round =>
        clear P1 M1
        obtain ⟨q, qs, A3, c3, rfl, hq, hl3, HQ, PP, MM⟩ := hrel
        have HL3 := Lib.hid hl3
        have hl4 : qs.length ≤ 2 := by omega
        have x0 : wr.cell? ⟨w.heap.size, 0, none⟩ = some (.slice A na ca) := PP.out.X.cell 0
        have x2 : wr.cell? ⟨w.heap.size, 2, none⟩ = some (.slice P k cp) := PP.out.X.cell 2
        have x3 : wr.cell? ⟨w.heap.size, 3, none⟩ = some (.slice S ns cs) := PP.out.X.cell 3
        clear hl3
        by_cases hlt : q < na
        · go_upto_if 118 with (first
              | (go_at_call 30; refine (next_any w.heap.size (w.heap.size + 1 + 1) _ _ PP.out.st (by omega) (by omega)).mono ?_; rintro e w6 ⟨r, rfl, hr0, hr1, hs6, hg6⟩; have P6 := Lib.hid (PP.out.next hs6 hg6); have M6 := Lib.hid (MM.out.next PP.out hg6); have x0' := P6.out.X.cell 0; have x2' := P6.out.X.cell 2; have x3' := P6.out.X.cell 3; clear hs6 hg6)
              | (at_lookup; refine wpList_lookup_bm _ rfl _ _ _ rfl Try.underlying73 hs q (fP qs) rfl M6.out _ rfl (wf_small (by omega) (by omega)) ?_))
          all_goals
            (try go_frame)
            clear x0 x2 x3 PP MM
            go_cut [11] (fun s8 wx => ∃ v : Int, s8 = .int .i64 v ∧ Hid ((-1 ≤ v ∧ (v < ns ∨ 8 ≤ v) ∧ v < 8 + (k : Int)) ∧ (v = -1 ∨ v ∉ qs)) ∧ wx = w6)
            case first =>
              go_wp2_with fail
              all_goals
                go_meet
                first
                | exact ⟨-1, rfl, (show _ ∧ _ from ⟨⟨by omega, by omega, by omega⟩, .inl rfl⟩), rfl⟩
                | exact ⟨_, rfl, (show _ ∧ _ from ⟨⟨by omega, by omega, by omega⟩, fP_no (by assumption)⟩), rfl⟩
            case rest =>
              obtain ⟨v, rfl, HV, hwx⟩ := hcut
              subst hwx
              have hv1 := HV.out.1.1
              have hv2 := HV.out.1.2.2
              have hk1 : q < 1000 := by omega
              have LQ : Hid (SpOk k ns (qs ++ [v])) := HQ.out.snoc HV.out.1 HV.out.2
              obtain ⟨i0, ii, iz0, iz1, iz2⟩ := info_parts info_int
              obtain ⟨cc, hcc⟩ : ∃ cc, cc = decide (v ≠ -1) := ⟨_, rfl⟩
              have HC := Lib.hid hcc
              have hcc2 : (v != -1) = cc := by rw [hcc]; by_cases e : v = -1 <;> simp [e]
              have hle : w.heap.size ≤ hs := P6.out.hh
              have HNE : Hid (∀ j, (Value.slice A1 ps.length c1).ownBlock = some j → (Value.slice A3 qs.length c3).ownBlock ≠ some j) := fun j hj he => by
                have h1 := HB1.out j hj
                have h2 := (P6.out.oq.lt j he).1
                omega
              clear hcc
              go_wp2_with (first
                | (at_mapUpdate; refine wpList_update_bm _ rfl _ _ _ _ rfl Try.underlying73 hs q (fP qs) rfl M6.out hk1 v rfl (wf_small (by omega) (by omega)) cc rfl ?_; intro w7 hm7 hg7; have P7 := Lib.hid (P6.out.map M6.out hle hg7); rw [fP_snoc qs v cc HC.out] at hm7; have M7 := Lib.hid hm7; clear hm7 hg7; have t1 := P7.out.T.cell 3)
                | (at_builtin; have KA := Lib.hid ((Below.refl w7.heap.size w7).alloc (Nat.le_refl _) (.cells #[.int .i64 v] 3)); have Q7 := Lib.hid (P7.out.keep KA.out); have N7 := Lib.hid (M7.out.below KA.out); clear KA; have LB : Hid (hs ≤ (w7.alloc (.cells #[.int .i64 v] 3)).heap.size) := Nat.le_of_lt N7.out.lt; refine wpList_append_one _ rfl (.tmp 124) (.tmp 126) 22 rfl hs 3 i0 (.int .i64 0) 8 Try.underlying22 ii iz0 iz1 iz2 rfl (.slice A3 qs.length c3) qs.length _ rfl Q7.out.oq w7.heap.size (.int .i64 v) rfl (World.cell?_alloc_at _ _ _ _ rfl) rfl (by unfold maxLen; omega) (by omega) LB.out ?_; intro v8 w8 hown8 hg8; obtain ⟨B3, e3, hv8⟩ := own_slice hown8; subst hv8; have P8 := Lib.hid (Q7.out.spot hown8 hg8 (own_apart HNE.out)); have M8 := Lib.hid (N7.out.spot Q7.out hg8 (.slice B3 (qs.length + 1) e3)); have t8 := (Q7.out.T.grown hg8 (own_blk_ne' Q7.out.T Q7.out.oq (by decide))).cell 3; have g8 := (Q7.out.T.grown hg8 (own_blk_ne' Q7.out.T Q7.out.oq (by decide))).frozen 3; clear hown8 hg8))
              go_roundw
              case rel => exact ⟨q + 1, qs ++ [v], B3, e3, by go_num, by omega, by simp [HL3.out], LQ, P8, M8⟩
              case measure => simp [intOf]; omega
        · have hqn : q = na := by omega
          subst hqn
          clear x0 x2 x3 hlt hq
          obtain ⟨t0, t1, t2, t3⟩ := blk4 PP.out.T
          have ZZ : Blk wr (w.heap.size + 1) 25 #[.int .i64 0, .slice none 0 0, .slice none 0 0, .slice none 0 0] := PP.out.Z
          obtain ⟨z0, z1, z2, z3⟩ := blk4 ZZ
          obtain ⟨f0, f1, f2, f3⟩ := frz ZZ
          have ZH := Lib.hid ZZ
          clear ZZ
          have hkl : k = ps.length := HL1.out.symm
          have hql : q = qs.length := HL3.out.symm
          have hsl : ss.length = ps.length := by rw [HL2.out, HL1.out]
          have Y9 := Lib.hid (ZH.out.set4 (.int .i64 ns) (.slice A1 ps.length c1) (.slice A2 ss.length c2) (.slice A3 qs.length c3))
          have B9 := Lib.hid (below_set4 PP.out.B (show w.heap.size ≤ w.heap.size + 1 by omega) (.int .i64 ns) (.slice A1 ps.length c1) (.slice A2 ss.length c2) (.slice A3 qs.length c3))
          have O1 := Lib.hid (own_set4 PP.out.op ZH.out (by decide) (.int .i64 ns) (.slice A1 ps.length c1) (.slice A2 ss.length c2) (.slice A3 qs.length c3))
          have O2 := Lib.hid (own_set4 PP.out.os ZH.out (by decide) (.int .i64 ns) (.slice A1 ps.length c1) (.slice A2 ss.length c2) (.slice A3 qs.length c3))
          have O3 := Lib.hid (own_set4 PP.out.oq ZH.out (by decide) (.int .i64 ns) (.slice A1 ps.length c1) (.slice A2 ss.length c2) (.slice A3 qs.length c3))
          have HH := Lib.hid PP.out.hh
          have NE : Hid (∀ j, (Value.slice A1 ps.length c1).ownBlock = some j → (Value.slice A3 qs.length c3).ownBlock ≠ some j) := fun j hj he => by
            have h1 := HB1.out j hj
            have h2 := (PP.out.oq.lt j he).1
            omega
          have HKL := Lib.hid hkl
          have HQL := Lib.hid hql
          have HSL := Lib.hid hsl
          unfold set4 at Y9 B9 O1 O2 O3
          clear hkl hql hsl PP MM
          go_wp2_with fail
          clear t0 t1 t2 t3 z0 z1 z2 z3 f0 f1 f2 f3 ZH
          generalize (((wr.setCell ⟨w.heap.size + 1, 0, none⟩ (.int .i64 ns)).setCell ⟨w.heap.size + 1, 1, none⟩ (.slice A1 ps.length c1)).setCell ⟨w.heap.size + 1, 2, none⟩ (.slice A2 ss.length c2)).setCell ⟨w.heap.size + 1, 3, none⟩ (.slice A3 qs.length c3) = w9 at Y9 B9 O1 O2 O3 ⊢
          obtain ⟨z0, z1, z2, z3⟩ := blk4 Y9.out
          obtain ⟨g1, d1, hv1, _⟩ := O1.out.form (by rw [HL1.out]; omega)
          obtain ⟨g2, d2, hv2, _⟩ := O2.out.form (by rw [HL2.out]; omega)
          obtain ⟨g3, d3, hv3, _⟩ := O3.out.form (by rw [HL3.out]; omega)
          cases hv1
          cases hv2
          cases hv3
          refine bodyPost_ret (v := .agg #[.int .i64 ns, .slice (some ⟨g1, 0, none⟩) ps.length c1, .slice (some ⟨g2, 0, none⟩) ss.length c2, .slice (some ⟨g3, 0, none⟩) qs.length c3]) (by simp [results, Try.results7, go_sem, z0, z1, z2, z3]) rfl ?_
          refine ⟨⟨ns, ps, ss, qs⟩, g1, g2, g3, c1, c2, c3, ?_, ?_, ?_, rfl, B9.out⟩
          · rw [HKL.out, HQL.out, HSL.out]
          · have o1 := O1.out
            have o2 := O2.out
            have o3 := own_mono O3.out HH.out
            rw [HSL.out] at o2
            rw [HKL.out, HQL.out]
            exact ⟨o1, o2, o3, fun e => NE.out g1 rfl (by rw [e]; rfl)⟩
          · refine (validA_iff _).2 ⟨by simp, by simp; omega, by simp only; have := HL1.out; omega, by simp only; have := HL3.out; omega, HSL.out, fun p hp => ?_, HP.out.di, fun s hs => ?_, HQ.out.di⟩
            · have := HP.out.rg p hp
              simp only at *
              rw [← HQL.out]
              omega
            · have := HQ.out.rg s hs
              simp only at *
              rw [← HKL.out]
              omega
end Go.Proofs.Ytioofkhadjaldaa
