/- The walk of act.Run at a valid world. -/
import Derived.Test.YtioofkhadjaldaaActJ
namespace Go.Proofs.Ytioofkhadjaldaa
open Go.RowKit
set_option linter.unusedVariables false
set_option maxRecDepth 100000

def RS (w : World) (A : Option Addr) (ss : List St) : Prop := RK St.cells 5 w A ss
theorem RS.at {w : World} {A : Option Addr} {ss : List St} (h : RS w A ss) {j : Nat} {s : St} (hj : ss[j]? = some s) : ∃ b o, A = some ⟨b, o, none⟩ ∧ b < w.heap.size ∧ w.cell? ⟨b, o + j * 5, none⟩ = some (.int .i64 s.kind) ∧ w.cell? ⟨b, o + j * 5 + 1, none⟩ = some (.int .i64 s.arm) ∧ w.cell? ⟨b, o + j * 5 + 2, none⟩ = some (.int .i64 s.part) ∧ w.cell? ⟨b, o + j * 5 + 3, none⟩ = some (.int .i64 s.slot) ∧ w.cell? ⟨b, o + j * 5 + 4, none⟩ = some (.int .i64 s.ticks) := by
  obtain ⟨b, o, hA, hb, hc⟩ := h (by have := lt_of_at hj; omega)
  exact ⟨b, o, hA, hb, hc j s 0 _ hj rfl, hc j s 1 _ hj rfl, hc j s 2 _ hj rfl, hc j s 3 _ hj rfl, hc j s 4 _ hj rfl⟩
/-- Steps, one by one. -/
def stepO (x : AW) (s : St) : Option AW := if canP x s = 0 then some (doS x s) else none
def runL (x : AW) (ss : List St) : Option AW := ss.foldlM stepO x
theorem runL_nil (x : AW) : runL x [] = some x := rfl
theorem runL_cons (x : AW) (s : St) (ss : List St) : runL x (s :: ss) = if canP x s = 0 then runL (doS x s) ss else none := by
  unfold runL stepO
  rw [List.foldlM_cons]
  split <;> rfl
theorem runL_append (x : AW) (a b : List St) : runL x (a ++ b) = (runL x a).bind fun y => runL y b := by
  unfold runL
  rw [List.foldlM_append]; rfl
theorem runL_valid {x y : AW} {ss : List St} (hv : ValidA x) (h : runL x ss = some y) : ValidA y := by
  induction ss generalizing x with
  | nil => rw [runL_nil] at h; injection h with h; exact h ▸ hv
  | cons s ss ih =>
    rw [runL_cons] at h
    split at h
    · rename_i hc; exact ih (valid_do hv hc) h
    · cases h
theorem runL_len {x y : AW} {ss : List St} (h : runL x ss = some y) : y.place.length = x.place.length ∧ y.seen.length = x.seen.length ∧ y.spot.length = x.spot.length ∧ y.slots = x.slots := by
  induction ss generalizing x with
  | nil => rw [runL_nil] at h; injection h with h; subst h; exact ⟨rfl, rfl, rfl, rfl⟩
  | cons s ss ih =>
    rw [runL_cons] at h
    split at h
    · have := ih h; have l := doS_len x s; omega
    · cases h
theorem runL_snoc {x z : AW} {ss : List St} {k : Nat} {s : St} (h : runL x (ss.take k) = some z) (hs : ss[k]? = some s) (hc : canP z s = 0) : runL x (ss.take (k + 1)) = some (doS z s) := by
  rw [List.take_add_one, hs, runL_append, h]
  show runL z [s] = _
  rw [runL_cons, if_pos hc, runL_nil]

/-- What Run answers. -/
def RunPost (x : AW) (ss : List St) (n1 n3 : Nat) (w : World) (e : Ending) (w' : World) : Prop :=
  Below w.heap.size w w' ∧ ((∃ y g1 g2 g3 d1 d2 d3, runL x ss = some y ∧ OW w.heap.size w' y g1 g2 g3 n1 n3 d1 d2 d3 ∧ e = .returned (.tuple #[.agg #[.int .i64 y.slots, .slice (some ⟨g1, 0, none⟩) n1 d1, .slice (some ⟨g2, 0, none⟩) n1 d2, .slice (some ⟨g3, 0, none⟩) n3 d3], .int .i64 ss.length, .int .i64 0])) ∨
    (∃ (k : Nat) (z : AW) (s : St), runL x (ss.take k) = some z ∧ ss[k]? = some s ∧ canP z s ≠ 0 ∧ e = .returned (.tuple #[.agg #[.int .i64 0, .slice none 0 0, .slice none 0 0, .slice none 0 0], .int .i64 k, .int .i64 (canP z s)])))

/-- A round's head: the result's box, the box of the world so far, that world. -/
structure RW (h : Nat) (w0 w : World) (z : AW) (g1 g2 g3 n1 n3 d1 d2 d3 gt : Nat) : Prop where
  Z : Blk w (h + 1) 25 #[.int .i64 0, .slice none 0 0, .slice none 0 0, .slice none 0 0]
  T : Blk w gt 25 #[.int .i64 z.slots, .slice (some ⟨g1, 0, none⟩) n1 d1, .slice (some ⟨g2, 0, none⟩) n1 d2, .slice (some ⟨g3, 0, none⟩) n3 d3]
  O : OW h w z g1 g2 g3 n1 n3 d1 d2 d3
  B : Below h w0 w
  ne : h + 1 < gt

abbrev set4 (w : World) (b : Nat) (u0 u1 u2 u3 : Value) : World := (((w.setCell ⟨b, 0, none⟩ u0).setCell ⟨b, 1, none⟩ u1).setCell ⟨b, 2, none⟩ u2).setCell ⟨b, 3, none⟩ u3
theorem Blk.set4 {w : World} {b : Nat} {t : TypeId} {a0 a1 a2 a3 : Value} (h : Blk w b t #[a0, a1, a2, a3]) (u0 u1 u2 u3 : Value) : Blk (set4 w b u0 u1 u2 u3) b t #[u0, u1, u2, u3] := (((h.set_ 0 _).set_ 1 _).set_ 2 _).set_ 3 _
theorem Blk.far4 {w : World} {g b : Nat} {t : TypeId} {cs : Array Value} (h : Blk w g t cs) (hn : g ≠ b) (u0 u1 u2 u3 : Value) : Blk (Go.Proofs.Ytioofkhadjaldaa.set4 w b u0 u1 u2 u3) g t cs :=
  (((h.far (p := ⟨b, 0, none⟩) hn u0).far (p := ⟨b, 1, none⟩) hn u1).far (p := ⟨b, 2, none⟩) hn u2).far (p := ⟨b, 3, none⟩) hn u3
theorem below_set4 {B : Nat} {w0 w : World} (h : Below B w0 w) {b : Nat} (hb : B ≤ b) (u0 u1 u2 u3 : Value) : Below B w0 (set4 w b u0 u1 u2 u3) :=
  (((h.setCell (p := ⟨b, 0, none⟩) hb u0).setCell (p := ⟨b, 1, none⟩) hb u1).setCell (p := ⟨b, 2, none⟩) hb u2).setCell (p := ⟨b, 3, none⟩) hb u3
theorem OW.set4 {h : Nat} {w : World} {x : AW} {g1 g2 g3 n1 n3 d1 d2 d3 b : Nat} {cs : Array Value} (ho : OW h w x g1 g2 g3 n1 n3 d1 d2 d3) (hb : Blk w b 25 cs) (u0 u1 u2 u3 : Value) : OW h (Go.Proofs.Ytioofkhadjaldaa.set4 w b u0 u1 u2 u3) x g1 g2 g3 n1 n3 d1 d2 d3 :=
  ⟨own_far4 ho.o1 (blk_ne ho.o1 hb (by decide)) _ _ _ _, own_far4 ho.o2 (blk_ne ho.o2 hb (by decide)) _ _ _ _, own_far4 ho.o3 (blk_ne ho.o3 hb (by decide)) _ _ _ _, ho.ne⟩
theorem OW.mono {h h' : Nat} {w : World} {x : AW} {g1 g2 g3 n1 n3 d1 d2 d3 : Nat} (ho : OW h w x g1 g2 g3 n1 n3 d1 d2 d3) (hh : h' ≤ h) : OW h' w x g1 g2 g3 n1 n3 d1 d2 d3 := ⟨own_mono ho.o1 hh, own_mono ho.o2 hh, own_mono ho.o3 hh, ho.ne⟩
theorem RW.next {h : Nat} {w0 w : World} {z : AW} {g1 g2 g3 n1 n3 d1 d2 d3 gt : Nat} {a0 a1 a2 a3 : Value} (Z : Blk w (h + 1) 25 #[.int .i64 0, .slice none 0 0, .slice none 0 0, .slice none 0 0]) (T : Blk w gt 25 #[a0, a1, a2, a3]) (O : OW h w z g1 g2 g3 n1 n3 d1 d2 d3) (B : Below h w0 w) (ne : h + 1 < gt) :
    RW h w0 (set4 w gt (.int .i64 z.slots) (.slice (some ⟨g1, 0, none⟩) n1 d1) (.slice (some ⟨g2, 0, none⟩) n1 d2) (.slice (some ⟨g3, 0, none⟩) n3 d3)) z g1 g2 g3 n1 n3 d1 d2 d3 gt :=
  ⟨Z.far4 (by omega) _ _ _ _, T.set4 _ _ _ _, O.set4 T _ _ _ _, below_set4 B (by omega) _ _ _ _, ne⟩

set_option maxHeartbeats 8000000 in
theorem Run_any (x : AW) (A1 A2 A3 AL : Option Addr) (n1 n3 c1 c2 c3 m cl : Nat) (ss : List St) (w : World) (hx : RW4 w x A1 A2 A3 n1 n1 n3 c1 c2 c3) (hv : ValidA x) (hs : RS w AL ss) (hm : ss.length = m) (hb : m ≤ 1000) (h1 : 0 < n1) (h3 : 0 < n3) :
    Calls Try.prog 11 #[.agg #[.int .i64 x.slots, .slice A1 n1 c1, .slice A2 n1 c2, .slice A3 n3 c3], .slice AL m cl] w (RunPost x ss n1 n3 w) := by
  have B1 := Lib.hid ((Below.refl w.heap.size w).alloc (Nat.le_refl _) (.cells #[.int .i64 x.slots, .slice A1 n1 c1, .slice A2 n1 c2, .slice A3 n3 c3] 25))
  have B2 := Lib.hid (B1.out.alloc B1.out.size (.cells #[.int .i64 0, .slice none 0 0, .slice none 0 0, .slice none 0 0] 25))
  have X2 := Lib.hid ((Blk.new w 25 #[.int .i64 x.slots, .slice A1 n1 c1, .slice A2 n1 c2, .slice A3 n3 c3]).alloc (.cells #[.int .i64 0, .slice none 0 0, .slice none 0 0, .slice none 0 0] 25))
  have Z2 := Lib.hid (Blk.new (w.alloc (.cells #[.int .i64 x.slots, .slice A1 n1 c1, .slice A2 n1 c2, .slice A3 n3 c3] 25)) 25 #[.int .i64 0, .slice none 0 0, .slice none 0 0, .slice none 0 0])
  simp only [World.size_alloc] at Z2
  have H := Lib.hid hx
  have V := Lib.hid hv
  have S := Lib.hid hs
  have M := Lib.hid hm
  clear hx hv hs hm B1
  go_enter Try.func11, Try.ntmps11
  go_wp2_with fail
  refine (Check_ok x A1 A2 A3 n1 n1 n3 c1 c2 c3 _ (H.out.below B2.out) V.out).mono ?_
  rintro e w3 ⟨rfl, hb3⟩
  have B3 := Lib.hid (B2.out.trans (hb3.mono B2.out.size))
  have X3 := Lib.hid (X2.out.below hb3 X2.out.lt)
  have Z3 := Lib.hid (Z2.out.below hb3 Z2.out.lt)
  clear hb3 X2 Z2 B2
  obtain ⟨x0, x1, x2, x3⟩ := blk4 X3.out
  go_wp2_with fail
  refine (Copy_any x A1 A2 A3 n1 n3 c1 c2 c3 _ (H.out.below B3.out) h1 h3).mono ?_
  rintro e w5 ⟨g1, g2, g3, d1, d2, d3, rfl, ho, hb5⟩
  have B5 := Lib.hid (B3.out.trans (hb5.mono B3.out.size))
  have Z5 := Lib.hid (Z3.out.below hb5 Z3.out.lt)
  have O5 := Lib.hid ho
  have Z4s := Lib.hid B3.out.size
  clear hb5 ho X3 Z3 B3 x0 x1 x2 x3
  have KB := Lib.hid ((Below.refl w5.heap.size w5).alloc (Nat.le_refl _) (.cells #[.int .i64 x.slots, .slice (some ⟨g1, 0, none⟩) n1 d1, .slice (some ⟨g2, 0, none⟩) n1 d2, .slice (some ⟨g3, 0, none⟩) n3 d3] 25))
  have D6 : Hid (RW w.heap.size w (w5.alloc (.cells #[.int .i64 x.slots, .slice (some ⟨g1, 0, none⟩) n1 d1, .slice (some ⟨g2, 0, none⟩) n1 d2, .slice (some ⟨g3, 0, none⟩) n3 d3] 25)) x g1 g2 g3 n1 n3 d1 d2 d3 w5.heap.size) :=
    ⟨Z5.out.alloc _, Blk.new _ _ _, ⟨own_mono (own_bel O5.out.o1 KB.out) Z4s.out, own_mono (own_bel O5.out.o2 KB.out) Z4s.out, own_mono (own_bel O5.out.o3 KB.out) Z4s.out, O5.out.ne⟩, B5.out.trans (KB.out.mono B5.out.size), Z5.out.lt⟩
  clear O5 Z5 B5 KB Z4s
  go_wp2_with fail
  have hgt : ∃ gt, gt = w5.heap.size := ⟨_, rfl⟩
  obtain ⟨gt, hgt⟩ := hgt
  rw [← hgt] at D6
  generalize hw6 : w5.alloc (.cells #[.int .i64 x.slots, .slice (some ⟨g1, 0, none⟩) n1 d1, .slice (some ⟨g2, 0, none⟩) n1 d2, .slice (some ⟨g3, 0, none⟩) n3 d3] 25) = w6 at D6 ⊢
  simp only [← hgt]
  clear hw6 hgt
  go_loopw [23] (fun i wr => ∃ (k : Nat) (z : AW) (g1 g2 g3 d1 d2 d3 : Nat), i = .int .i64 k ∧ k ≤ m ∧ Hid (runL x (ss.take k) = some z) ∧ Hid (RW w.heap.size w wr z g1 g2 g3 n1 n3 d1 d2 d3 gt)) (fun i _ => m - (intOf i).toNat)
  case atStart => exact ⟨0, x, g1, g2, g3, d1, d2, d3, rfl, by omega, rfl, D6⟩
  case round =>
    clear D6
    obtain ⟨k, z, j1, j2, j3, e1, e2, e3, rfl, hk, HR, D⟩ := hrel
    by_cases hlt : k < m
    · obtain ⟨s, hs⟩ := some_at (l := ss) (k := k) (by rw [M.out]; exact hlt)
      obtain ⟨b, o, rfl, hbb, s0, s1, s2, s3, s4⟩ := RS.at (RK.below S.out D.out.B) hs
      have HS := Lib.hid hs
      have HV := Lib.hid (runL_valid V.out HR.out)
      clear hs
      have KB := Lib.hid ((Below.refl wr.heap.size wr).alloc (Nat.le_refl _) (.cells #[.int .i64 s.kind, .int .i64 s.arm, .int .i64 s.part, .int .i64 s.slot, .int .i64 s.ticks] 39))
      have T7 := Lib.hid (D.out.T.below KB.out D.out.T.lt)
      have Z7 := Lib.hid (D.out.Z.below KB.out D.out.Z.lt)
      have B7 := Lib.hid (D.out.B.trans (KB.out.mono D.out.B.size))
      obtain ⟨t0, t1, t2, t3⟩ := blk4 T7.out
      have X7 := Lib.hid (Blk.new wr 39 #[.int .i64 s.kind, .int .i64 s.arm, .int .i64 s.part, .int .i64 s.slot, .int .i64 s.ticks])
      have RZ : Hid (RW4 (wr.alloc (.cells #[.int .i64 s.kind, .int .i64 s.arm, .int .i64 s.part, .int .i64 s.slot, .int .i64 s.ticks] 39)) z (some ⟨j1, 0, none⟩) (some ⟨j2, 0, none⟩) (some ⟨j3, 0, none⟩) n1 n1 n3 e1 e2 e3) := (D.out.O.rw4 H.out.b1 H.out.b3).below KB.out
      obtain ⟨r, hr⟩ : ∃ r, canP z ⟨s.kind, s.arm, s.part, s.slot, s.ticks⟩ = r := ⟨_, rfl⟩
      have HC := Lib.hid hr
      by_cases hr0 : r = 0
      · subst hr0
        clear hr
        go_wp2_with fail
        refine (Do_yes z _ _ _ n1 n3 e1 e2 e3 s.kind s.arm s.part s.slot s.ticks _ RZ.out HV.out h1 h3 HC).mono ?_
        rintro e w8 ⟨l1, l2, l3, f1, f2, f3, rfl, ho, hb8⟩
        have T8 := Lib.hid (T7.out.below hb8 T7.out.lt)
        have Z8 := Lib.hid (Z7.out.below hb8 Z7.out.lt)
        have B8 := Lib.hid (B7.out.trans (hb8.mono B7.out.size))
        have O8 := Lib.hid (ho.mono (Nat.le_trans B7.out.size (Nat.le_refl _)))
        have NE := Lib.hid D.out.ne
        have ZS := Lib.hid (doS_len z ⟨s.kind, s.arm, s.part, s.slot, s.ticks⟩).2.2.2
        have HR2 := Lib.hid (runL_snoc HR.out HS.out HC.out)
        clear hb8 ho t0 t1 t2 t3 T7 Z7 B7 X7 KB RZ D s0 s1 s2 s3 s4
        have K9 := Lib.hid ((Below.refl w8.heap.size w8).alloc (Nat.le_refl _) (.cells #[.int .i64 z.slots, .slice (some ⟨l1, 0, none⟩) n1 f1, .slice (some ⟨l2, 0, none⟩) n1 f2, .slice (some ⟨l3, 0, none⟩) n3 f3] 25))
        have T9 := Lib.hid (T8.out.below K9.out T8.out.lt)
        have D9 := Lib.hid (RW.next (z := doS z ⟨s.kind, s.arm, s.part, s.slot, s.ticks⟩) (Z8.out.below K9.out Z8.out.lt) T9.out (O8.out.bel K9.out) (B8.out.trans (K9.out.mono B8.out.size)) NE.out)
        rw [ZS.out] at D9
        unfold set4 at D9
        obtain ⟨t0, t1, t2, t3⟩ := blk4 T9.out
        obtain ⟨f0, f1', f2', f3'⟩ := frz T9.out
        go_wp2_with fail
        go_roundw
        case rel => exact ⟨k + 1, _, l1, l2, l3, f1, f2, f3, by go_num, by omega, HR2.out, D9.out⟩
        case measure => simp [intOf]; omega
      · have hr1 : (r != 0) = true := by simpa using hr0
        clear hr
        go_wp2_with fail
        refine (Do_no z _ _ _ n1 n3 e1 e2 e3 s.kind s.arm s.part s.slot s.ticks _ RZ.out HV.out r HC hr0).mono ?_
        rintro e w8 ⟨rfl, hb8⟩
        have Z8 := Lib.hid (Z7.out.below hb8 Z7.out.lt)
        have B8 := Lib.hid (B7.out.trans (hb8.mono B7.out.size))
        clear hb8 t0 t1 t2 t3 T7 Z7 B7 X7 KB RZ D s0 s1 s2 s3 s4
        have K9 := Lib.hid ((Below.refl w8.heap.size w8).alloc (Nat.le_refl _) (.cells #[.int .i64 0, .slice none 0 0, .slice none 0 0, .slice none 0 0] 25))
        have Z9 := Lib.hid (Z8.out.below K9.out Z8.out.lt)
        have B9 := Lib.hid (below_set4 (B8.out.trans (K9.out.mono B8.out.size)) (show w.heap.size ≤ w.heap.size + 1 by omega) (.int .i64 0) (.slice none 0 0) (.slice none 0 0) (.slice none 0 0))
        have Y9 := Lib.hid (Z9.out.set4 (.int .i64 0) (.slice none 0 0) (.slice none 0 0) (.slice none 0 0))
        obtain ⟨z0, z1, z2, z3⟩ := blk4 Z9.out
        obtain ⟨f0, f1', f2', f3'⟩ := frz Z9.out
        go_wp2_with fail
        unfold set4 at B9 Y9
        clear z0 z1 z2 z3 f0 f1' f2' f3'
        generalize ((((w8.alloc (.cells #[.int .i64 0, .slice none 0 0, .slice none 0 0, .slice none 0 0] 25)).setCell ⟨w.heap.size + 1, 0, none⟩ (.int .i64 0)).setCell ⟨w.heap.size + 1, 1, none⟩ (.slice none 0 0)).setCell ⟨w.heap.size + 1, 2, none⟩ (.slice none 0 0)).setCell ⟨w.heap.size + 1, 3, none⟩ (.slice none 0 0) = w9 at Y9 B9 ⊢
        obtain ⟨z0, z1, z2, z3⟩ := blk4 Y9.out
        refine bodyPost_ret (v := .tuple #[.agg #[.int .i64 0, .slice none 0 0, .slice none 0 0, .slice none 0 0], .int .i64 k, .int .i64 r]) (by simp [results, Try.results11, go_sem, z0, z1, z2, z3]) rfl ⟨B9.out, .inr ⟨k, z, s, HR.out, HS.out, ?_, ?_⟩⟩
        · have h := HC.out
          intro h2
          exact hr0 (h.symm.trans h2)
        · have h : canP z s = r := HC.out
          rw [h]
    · obtain ⟨t0, t1, t2, t3⟩ := blk4 D.out.T
      obtain ⟨z0, z1, z2, z3⟩ := blk4 D.out.Z
      obtain ⟨f0, f1, f2, f3⟩ := frz D.out.Z
      have hkm : k = m := by omega
      subst hkm
      have HR2 : Hid (runL x ss = some z) := by have := HR.out; rw [List.take_of_length_le (by rw [M.out]; omega)] at this; exact this
      have O9 := Lib.hid (D.out.O.set4 D.out.Z (.int .i64 z.slots) (.slice (some ⟨j1, 0, none⟩) n1 e1) (.slice (some ⟨j2, 0, none⟩) n1 e2) (.slice (some ⟨j3, 0, none⟩) n3 e3))
      have Y9 := Lib.hid (D.out.Z.set4 (.int .i64 z.slots) (.slice (some ⟨j1, 0, none⟩) n1 e1) (.slice (some ⟨j2, 0, none⟩) n1 e2) (.slice (some ⟨j3, 0, none⟩) n3 e3))
      have B9 := Lib.hid (below_set4 D.out.B (show w.heap.size ≤ w.heap.size + 1 by omega) (.int .i64 z.slots) (.slice (some ⟨j1, 0, none⟩) n1 e1) (.slice (some ⟨j2, 0, none⟩) n1 e2) (.slice (some ⟨j3, 0, none⟩) n3 e3))
      unfold set4 at O9 Y9 B9
      go_wp2_with fail
      clear t0 t1 t2 t3 z0 z1 z2 z3 f0 f1 f2 f3
      generalize (((wr.setCell ⟨w.heap.size + 1, 0, none⟩ (.int .i64 z.slots)).setCell ⟨w.heap.size + 1, 1, none⟩ (.slice (some ⟨j1, 0, none⟩) n1 e1)).setCell ⟨w.heap.size + 1, 2, none⟩ (.slice (some ⟨j2, 0, none⟩) n1 e2)).setCell ⟨w.heap.size + 1, 3, none⟩ (.slice (some ⟨j3, 0, none⟩) n3 e3) = w9 at O9 Y9 B9 ⊢
      obtain ⟨z0, z1, z2, z3⟩ := blk4 Y9.out
      refine bodyPost_ret (v := .tuple #[.agg #[.int .i64 z.slots, .slice (some ⟨j1, 0, none⟩) n1 e1, .slice (some ⟨j2, 0, none⟩) n1 e2, .slice (some ⟨j3, 0, none⟩) n3 e3], .int .i64 k, .int .i64 0]) (by simp [results, Try.results11, go_sem, z0, z1, z2, z3]) rfl ⟨B9.out, .inl ⟨z, j1, j2, j3, e1, e2, e3, HR2.out, O9.out, ?_⟩⟩
      rw [M.out]
end Go.Proofs.Ytioofkhadjaldaa
