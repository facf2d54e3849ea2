/- The walk of act.Do at a valid world. -/
import Derived.Test.YtioofkhadjaldaaActG
namespace Go.Proofs.Ytioofkhadjaldaa
open Go.RowKit
set_option linter.unusedVariables false
set_option maxRecDepth 100000

/-- The world after a step that can be done. -/
def doS (x : AW) (s : St) : AW :=
  if s.kind = 0 then { x with spot := x.spot.set s.arm.toNat (targetP x s) }
  else if s.kind = 1 then { x with place := x.place.set s.part.toNat (-2 - s.arm) }
  else if s.kind = 3 then { x with seen := x.seen.set s.part.toNat true }
  else if s.kind = 2 then { x with place := x.place.set (holdsP x s.arm).toNat s.slot, seen := x.seen.set (holdsP x s.arm).toNat false }
  else x

abbrev wagg (x : AW) (A1 A2 A3 : Option Addr) (n1 n3 c1 c2 c3 : Nat) : Array Value := #[.int .i64 x.slots, .slice A1 n1 c1, .slice A2 n1 c2, .slice A3 n3 c3]
/-- Where Do stands behind its copy: the step's box, the copy's box, the copy. -/
structure DW (h : Nat) (w : World) (x : AW) (sl : Int) (g1 g2 g3 n1 n3 d1 d2 d3 gt : Nat) : Prop where
  Z : Blk w (h + 1 + 1) 25 #[.int .i64 0, .slice none 0 0, .slice none 0 0, .slice none 0 0]
  T : Blk w gt 25 #[.int .i64 sl, .slice (some ⟨g1, 0, none⟩) n1 d1, .slice (some ⟨g2, 0, none⟩) n1 d2, .slice (some ⟨g3, 0, none⟩) n3 d3]
  O : OW h w x g1 g2 g3 n1 n3 d1 d2 d3
section
variable {h : Nat} {w w' : World} {x : AW} {sl : Int} {g1 g2 g3 n1 n3 d1 d2 d3 gt : Nat}
theorem OW.bel (ho : OW h w x g1 g2 g3 n1 n3 d1 d2 d3) (hb : Below w.heap.size w w') : OW h w' x g1 g2 g3 n1 n3 d1 d2 d3 := ⟨own_bel ho.o1 hb, own_bel ho.o2 hb, own_bel ho.o3 hb, ho.ne⟩
theorem DW.bel (hd : DW h w x sl g1 g2 g3 n1 n3 d1 d2 d3 gt) (hb : Below w.heap.size w w') : DW h w' x sl g1 g2 g3 n1 n3 d1 d2 d3 gt :=
  ⟨hd.Z.below hb hd.Z.lt, hd.T.below hb hd.T.lt, hd.O.bel hb⟩
theorem DW.drew (hd : DW h w x sl g1 g2 g3 n1 n3 d1 d2 d3 gt) : DW h w.drew x sl g1 g2 g3 n1 n3 d1 d2 d3 gt := ⟨hd.Z.drew, hd.T.drew, ⟨hd.O.o1, hd.O.o2, hd.O.o3, hd.O.ne⟩⟩
theorem blk_ne {b g c n : Nat} {e t : TypeId} {size : Nat} {xs : List Value} {cs : Array Value} (ho : w.ownsRow h e size (.slice (some ⟨g, 0, none⟩) n c) n xs) (hg : Blk w b t cs) (hne : e ≠ t) : g ≠ b := by
  have := own_blk_ne ho hg hne
  intro he
  subst he
  exact this rfl
theorem own_ne {a b c d n m : Nat} {e t : TypeId} {k l : Nat} {xs ys : List Value} (h1 : w.ownsRow h e k (.slice (some ⟨a, 0, none⟩) n c) n xs) (h2 : w.ownsRow h t l (.slice (some ⟨b, 0, none⟩) m d) m ys) (hne : e ≠ t) : a ≠ b := by
  have := own_own_ne h1 h2 hne
  rcases this with h0 | h0
  · simp [Value.ownBlock] at h0
  · intro he; subst he; exact h0 rfl
theorem own_ge {g c n : Nat} {e : TypeId} {size : Nat} {xs : List Value} (ho : w.ownsRow h e size (.slice (some ⟨g, 0, none⟩) n c) n xs) : h ≤ g ∧ g < w.heap.size := ho.lt g rfl
theorem set_map {α : Type} (f : α → Value) (xs : List α) (k : Nat) (v : α) : (xs.map f).set k (f v) = (xs.set k v).map f := by rw [List.map_set]
theorem DW.spot (hd : DW h w x sl g1 g2 g3 n1 n3 d1 d2 d3 gt) (k : Nat) (v : Int) : DW h (w.setCell ⟨g3, k, none⟩ (.int .i64 v)) { x with spot := x.spot.set k v } sl g1 g2 g3 n1 n3 d1 d2 d3 gt :=
  ⟨hd.Z.far (Ne.symm (blk_ne hd.O.o3 hd.Z (by decide))) _, hd.T.far (Ne.symm (blk_ne hd.O.o3 hd.T (by decide))) _,
    ⟨own_far hd.O.o1 ⟨g3, k, none⟩ hd.O.ne _, own_far hd.O.o2 ⟨g3, k, none⟩ (own_ne hd.O.o2 hd.O.o3 (by decide)) _, by rw [← set_map]; exact (hd.O.o3.stored k _).1, hd.O.ne⟩⟩
theorem DW.place (hd : DW h w x sl g1 g2 g3 n1 n3 d1 d2 d3 gt) (k : Nat) (v : Int) : DW h (w.setCell ⟨g1, k, none⟩ (.int .i64 v)) { x with place := x.place.set k v } sl g1 g2 g3 n1 n3 d1 d2 d3 gt :=
  ⟨hd.Z.far (Ne.symm (blk_ne hd.O.o1 hd.Z (by decide))) _, hd.T.far (Ne.symm (blk_ne hd.O.o1 hd.T (by decide))) _,
    ⟨by rw [← set_map]; exact (hd.O.o1.stored k _).1, own_far hd.O.o2 ⟨g1, k, none⟩ (own_ne hd.O.o2 hd.O.o1 (by decide)) _, own_far hd.O.o3 ⟨g1, k, none⟩ (Ne.symm hd.O.ne) _, hd.O.ne⟩⟩
theorem DW.seen (hd : DW h w x sl g1 g2 g3 n1 n3 d1 d2 d3 gt) (k : Nat) (v : Bool) : DW h (w.setCell ⟨g2, k, none⟩ (.bool v)) { x with seen := x.seen.set k v } sl g1 g2 g3 n1 n3 d1 d2 d3 gt :=
  ⟨hd.Z.far (Ne.symm (blk_ne hd.O.o2 hd.Z (by decide))) _, hd.T.far (Ne.symm (blk_ne hd.O.o2 hd.T (by decide))) _,
    ⟨own_far hd.O.o1 ⟨g2, k, none⟩ (own_ne hd.O.o1 hd.O.o2 (by decide)) _, by rw [← set_map]; exact (hd.O.o2.stored k _).1, own_far hd.O.o3 ⟨g2, k, none⟩ (own_ne hd.O.o3 hd.O.o2 (by decide)) _, hd.O.ne⟩⟩
/-- The result's box takes the copy. -/
abbrev resW (w : World) (h : Nat) (sl : Int) (g1 g2 g3 n1 n3 d1 d2 d3 : Nat) : World := (((w.setCell ⟨h + 1 + 1, 0, none⟩ (.int .i64 sl)).setCell ⟨h + 1 + 1, 1, none⟩ (.slice (some ⟨g1, 0, none⟩) n1 d1)).setCell ⟨h + 1 + 1, 2, none⟩ (.slice (some ⟨g2, 0, none⟩) n1 d2)).setCell ⟨h + 1 + 1, 3, none⟩ (.slice (some ⟨g3, 0, none⟩) n3 d3)
theorem DW.done {w0 : World} (hd : DW w0.heap.size w x sl g1 g2 g3 n1 n3 d1 d2 d3 gt) (hb : Below w0.heap.size w0 w) :
    Hid (Blk (resW w w0.heap.size sl g1 g2 g3 n1 n3 d1 d2 d3) (w0.heap.size + 1 + 1) 25 #[.int .i64 sl, .slice (some ⟨g1, 0, none⟩) n1 d1, .slice (some ⟨g2, 0, none⟩) n1 d2, .slice (some ⟨g3, 0, none⟩) n3 d3]) ∧
      Hid (OW w0.heap.size (resW w w0.heap.size sl g1 g2 g3 n1 n3 d1 d2 d3) x g1 g2 g3 n1 n3 d1 d2 d3 ∧ Below w0.heap.size w0 (resW w w0.heap.size sl g1 g2 g3 n1 n3 d1 d2 d3)) := by
  refine ⟨(((hd.Z.set_ 0 _).set_ 1 _).set_ 2 _).set_ 3 _, ⟨?_, ?_⟩⟩
  · exact ⟨own_far4 hd.O.o1 (blk_ne hd.O.o1 hd.Z (by decide)) _ _ _ _, own_far4 hd.O.o2 (blk_ne hd.O.o2 hd.Z (by decide)) _ _ _ _, own_far4 hd.O.o3 (blk_ne hd.O.o3 hd.Z (by decide)) _ _ _ _, hd.O.ne⟩
  · have hh : w0.heap.size ≤ w0.heap.size + 1 + 1 := by omega
    exact (((hb.setCell (p := ⟨w0.heap.size + 1 + 1, 0, none⟩) hh _).setCell (p := ⟨w0.heap.size + 1 + 1, 1, none⟩) hh _).setCell (p := ⟨w0.heap.size + 1 + 1, 2, none⟩) hh _).setCell (p := ⟨w0.heap.size + 1 + 1, 3, none⟩) hh _
theorem blk4 {W : World} {b : Nat} {t : TypeId} {a0 a1 a2 a3 : Value} (h : Blk W b t #[a0, a1, a2, a3]) : W.cell? ⟨b, 0, none⟩ = some a0 ∧ W.cell? ⟨b, 1, none⟩ = some a1 ∧ W.cell? ⟨b, 2, none⟩ = some a2 ∧ W.cell? ⟨b, 3, none⟩ = some a3 := ⟨h.cell 0, h.cell 1, h.cell 2, h.cell 3⟩
theorem blk5 {W : World} {b : Nat} {t : TypeId} {a0 a1 a2 a3 a4 : Value} (h : Blk W b t #[a0, a1, a2, a3, a4]) : W.cell? ⟨b, 0, none⟩ = some a0 ∧ W.cell? ⟨b, 1, none⟩ = some a1 ∧ W.cell? ⟨b, 2, none⟩ = some a2 ∧ W.cell? ⟨b, 3, none⟩ = some a3 ∧ W.cell? ⟨b, 4, none⟩ = some a4 := ⟨h.cell 0, h.cell 1, h.cell 2, h.cell 3, h.cell 4⟩
theorem frz {W : World} {b : Nat} {t : TypeId} {cs : Array Value} (h : Blk W b t cs) : W.frozen? ⟨b, 0, none⟩ = false ∧ W.frozen? ⟨b, 1, none⟩ = false ∧ W.frozen? ⟨b, 2, none⟩ = false ∧ W.frozen? ⟨b, 3, none⟩ = false := ⟨h.frozen 0, h.frozen 1, h.frozen 2, h.frozen 3⟩
end

section
variable (x : AW) (A1 A2 A3 : Option Addr) (n1 n3 c1 c2 c3 : Nat)
theorem target_f (kind arm part slot ticks : Int) (w : World) (hx : RW4 w x A1 A2 A3 n1 n1 n3 c1 c2 c3) (r : Int) (hr : Hid (targetP x ⟨kind, arm, part, slot, ticks⟩ = r)) :
    Calls Try.prog 52 #[.agg #[.int .i64 x.slots, .slice A1 n1 c1, .slice A2 n1 c2, .slice A3 n3 c3], .agg #[.int .i64 kind, .int .i64 arm, .int .i64 part, .int .i64 slot, .int .i64 ticks]] w fun e w' => e = .returned (.int .i64 r) ∧ Below w.heap.size w w' :=
  target_any x A1 A2 A3 n1 n1 n3 c1 c2 c3 ⟨kind, arm, part, slot, ticks⟩ w hx r hr
set_option maxHeartbeats 8000000 in
theorem Do_go (k : Nat) (part slot ticks : Int) (w : World) (hx : RW4 w x A1 A2 A3 n1 n1 n3 c1 c2 c3) (hv : ValidA x) (h1 : 0 < n1) (h3 : 0 < n3) (hkn : k < n3) (HC : Hid (canP x ⟨0, k, part, slot, ticks⟩ = 0)) :
    Calls Try.prog 24 #[.agg #[.int .i64 x.slots, .slice A1 n1 c1, .slice A2 n1 c2, .slice A3 n3 c3], .agg #[.int .i64 0, .int .i64 k, .int .i64 part, .int .i64 slot, .int .i64 ticks]] w fun e w' => ∃ g1 g2 g3 d1 d2 d3, e = .returned (.tuple #[.agg #[.int .i64 x.slots, .slice (some ⟨g1, 0, none⟩) n1 d1, .slice (some ⟨g2, 0, none⟩) n1 d2, .slice (some ⟨g3, 0, none⟩) n3 d3], .int .i64 0]) ∧ OW w.heap.size w' (doS x ⟨0, k, part, slot, ticks⟩) g1 g2 g3 n1 n3 d1 d2 d3 ∧ Below w.heap.size w w' := by
  have B1 := Lib.hid ((Below.refl w.heap.size w).alloc (Nat.le_refl _) (.cells #[.int .i64 x.slots, .slice A1 n1 c1, .slice A2 n1 c2, .slice A3 n3 c3] 25))
  have B2 := Lib.hid (B1.out.alloc B1.out.size (.cells #[.int .i64 0, .int .i64 k, .int .i64 part, .int .i64 slot, .int .i64 ticks] 39))
  have B3 := Lib.hid (B2.out.alloc B2.out.size (.cells #[.int .i64 0, .slice none 0 0, .slice none 0 0, .slice none 0 0] 25))
  have X3 := Lib.hid (((Blk.new w 25 #[.int .i64 x.slots, .slice A1 n1 c1, .slice A2 n1 c2, .slice A3 n3 c3]).alloc (.cells #[.int .i64 0, .int .i64 k, .int .i64 part, .int .i64 slot, .int .i64 ticks] 39)).alloc (.cells #[.int .i64 0, .slice none 0 0, .slice none 0 0, .slice none 0 0] 25))
  have Y3 := Lib.hid ((Blk.new (w.alloc (.cells #[.int .i64 x.slots, .slice A1 n1 c1, .slice A2 n1 c2, .slice A3 n3 c3] 25)) 39 #[.int .i64 0, .int .i64 k, .int .i64 part, .int .i64 slot, .int .i64 ticks]).alloc (.cells #[.int .i64 0, .slice none 0 0, .slice none 0 0, .slice none 0 0] 25))
  have Z3 := Lib.hid (Blk.new ((w.alloc (.cells #[.int .i64 x.slots, .slice A1 n1 c1, .slice A2 n1 c2, .slice A3 n3 c3] 25)).alloc (.cells #[.int .i64 0, .int .i64 k, .int .i64 part, .int .i64 slot, .int .i64 ticks] 39)) 25 #[.int .i64 0, .slice none 0 0, .slice none 0 0, .slice none 0 0])
  simp only [World.size_alloc] at Y3 Z3
  have H := Lib.hid hx
  have V := Lib.hid hv
  clear hx hv B1 B2
  go_enter Try.func24, Try.ntmps24
  go_wp2_with fail
  refine (Can_any x A1 A2 A3 n1 n3 c1 c2 c3 0 k part slot ticks _ (H.out.below B3.out) V.out 0 HC).mono ?_
  rintro e w4 ⟨rfl, hb⟩
  have B4 := Lib.hid (B3.out.trans (hb.mono B3.out.size))
  have X4 := Lib.hid (X3.out.below hb X3.out.lt)
  have Y4 := Lib.hid (Y3.out.below hb Y3.out.lt)
  have Z4 := Lib.hid (Z3.out.below hb Z3.out.lt)
  clear hb X3 Y3 Z3 B3
  obtain ⟨x0, x1, x2, x3⟩ := blk4 X4.out
  obtain ⟨y0, y1, y2, y3, y4⟩ := blk5 Y4.out
  go_wp2_with fail
  refine (Copy_any x A1 A2 A3 n1 n3 c1 c2 c3 _ (H.out.below B4.out) h1 h3).mono ?_
  rintro e w5 ⟨g1, g2, g3, d1, d2, d3, rfl, ho, hb⟩
  have B5 := Lib.hid (B4.out.trans (hb.mono B4.out.size))
  have X5 := Lib.hid (X4.out.below hb X4.out.lt)
  have Y5 := Lib.hid (Y4.out.below hb Y4.out.lt)
  have Z5 := Lib.hid (Z4.out.below hb Z4.out.lt)
  have O5 := Lib.hid ho
  have Z4s := Lib.hid B4.out.size
  clear hb ho X4 Y4 Z4 B4 x0 x1 x2 x3 y0 y1 y2 y3 y4
  have KB := Lib.hid ((Below.refl w5.heap.size w5).alloc (Nat.le_refl _) (.cells #[.int .i64 x.slots, .slice (some ⟨g1, 0, none⟩) n1 d1, .slice (some ⟨g2, 0, none⟩) n1 d2, .slice (some ⟨g3, 0, none⟩) n3 d3] 25))
  have D6 : Hid (DW w.heap.size (w5.alloc (.cells #[.int .i64 x.slots, .slice (some ⟨g1, 0, none⟩) n1 d1, .slice (some ⟨g2, 0, none⟩) n1 d2, .slice (some ⟨g3, 0, none⟩) n3 d3] 25)) x x.slots g1 g2 g3 n1 n3 d1 d2 d3 w5.heap.size) :=
    ⟨Z5.out.alloc _, Blk.new _ _ _, own_mono (own_bel O5.out.o1 KB.out) Z4s.out, own_mono (own_bel O5.out.o2 KB.out) Z4s.out, own_mono (own_bel O5.out.o3 KB.out) Z4s.out, O5.out.ne⟩
  have X6 := Lib.hid (X5.out.below KB.out X5.out.lt)
  have Y6 := Lib.hid (Y5.out.below KB.out Y5.out.lt)
  have B6 := Lib.hid (B5.out.trans (KB.out.mono B5.out.size))
  have HY := Lib.hid (blk5 Y6.out)
  have HZ5 := Lib.hid (And.intro (Nat.lt_of_lt_of_le Z5.out.lt (Nat.le_refl w5.heap.size)) trivial)
  have y0 := HY.out.1
  clear O5 X5 Y5 Z5 B5 KB Z4s HY
  go_wp2_with fail
  have hgt : ∃ gt, gt = w5.heap.size := ⟨_, rfl⟩
  obtain ⟨gt, hgt⟩ := hgt
  rw [← hgt] at D6
  generalize hw6 : w5.alloc (.cells #[.int .i64 x.slots, .slice (some ⟨g1, 0, none⟩) n1 d1, .slice (some ⟨g2, 0, none⟩) n1 d2, .slice (some ⟨g3, 0, none⟩) n3 d3] 25) = w6 at D6 X6 Y6 B6 y0 ⊢
  simp only [← hgt]
  clear hw6 hgt
  obtain ⟨x0, x1, x2, x3⟩ := blk4 X6.out
  obtain ⟨y0, y1, y2, y3, y4⟩ := blk5 Y6.out
  obtain ⟨t0, t1, t2, t3⟩ := blk4 D6.out.T
  obtain ⟨z0, z1, z2, z3⟩ := blk4 D6.out.Z
  obtain ⟨f0, f1, f2, f3⟩ := frz D6.out.Z
  have nx := Ne.symm (blk_ne D6.out.O.o3 X6.out (by decide))
  have nx' := Ne.symm nx
  have ny := Ne.symm (blk_ne D6.out.O.o3 Y6.out (by decide))
  have ny' := Ne.symm ny
  have nt := Ne.symm (blk_ne D6.out.O.o3 D6.out.T (by decide))
  have nt' := Ne.symm nt
  replace B6 := Lib.hid B6.out.drew
  replace X6 := Lib.hid X6.out.drew
  replace Y6 := Lib.hid Y6.out.drew
  replace D6 := Lib.hid D6.out.drew
  have hs3 : x.spot.length = n3 := H.out.l3
  obtain ⟨q, hq⟩ := some_at (l := x.spot) (k := k) (by rw [hs3]; exact hkn)
  have sc := D6.out.O.o3.cellAt k (by omega)
  rw [List.getElem?_map, hq] at sc
  have sf := D6.out.O.o3.frozenAt k
  have HQ := Lib.hid hq
  have HS := Lib.hid hs3
  obtain ⟨t, ht⟩ : ∃ t, targetP x ⟨0, k, part, slot, ticks⟩ = t := ⟨_, rfl⟩
  have HT := Lib.hid ht
  clear hq hs3 ht
  go_region_held3 (fun W => (W.cell? ⟨w.heap.size, 0, none⟩ = some (.int .i64 x.slots) ∧ W.cell? ⟨w.heap.size, 1, none⟩ = some (.slice A1 n1 c1) ∧ W.cell? ⟨w.heap.size, 2, none⟩ = some (.slice A2 n1 c2) ∧ W.cell? ⟨w.heap.size, 3, none⟩ = some (.slice A3 n3 c3)) ∧ (W.cell? ⟨w.heap.size + 1, 0, none⟩ = some (.int .i64 0) ∧ W.cell? ⟨w.heap.size + 1, 1, none⟩ = some (.int .i64 k) ∧ W.cell? ⟨w.heap.size + 1, 2, none⟩ = some (.int .i64 part) ∧ W.cell? ⟨w.heap.size + 1, 3, none⟩ = some (.int .i64 slot) ∧ W.cell? ⟨w.heap.size + 1, 4, none⟩ = some (.int .i64 ticks)) ∧ W.cell? ⟨gt, 1, none⟩ = some (.slice (some ⟨g1, 0, none⟩) n1 d1) ∧ W.cell? ⟨gt, 2, none⟩ = some (.slice (some ⟨g2, 0, none⟩) n1 d2) ∧ W.cell? ⟨gt, 3, none⟩ = some (.slice (some ⟨g3, 0, none⟩) n3 d3))
    (first | exact ⟨⟨x0, x1, x2, x3⟩, ⟨y0, y1, y2, y3, y4⟩, t1, t2, t3⟩ | go_keep)
    ((go_at_call 52; refine (target_f x A1 A2 A3 n1 n3 c1 c2 c3 0 k part slot ticks _ (H.out.below B6.out) t HT).mono ?_; rintro e w' ⟨rfl, hb⟩; replace B6 := Lib.hid (B6.out.trans (hb.mono B6.out.size)); replace X6 := Lib.hid (X6.out.below hb X6.out.lt); replace Y6 := Lib.hid (Y6.out.below hb Y6.out.lt); replace D6 := Lib.hid (D6.out.bel hb); clear hb; replace x0 := X6.out.cell 0; replace x1 := X6.out.cell 1; replace x2 := X6.out.cell 2; replace x3 := X6.out.cell 3; replace y0 := Y6.out.cell 0; replace y1 := Y6.out.cell 1; replace y2 := Y6.out.cell 2; replace y3 := Y6.out.cell 3; replace y4 := Y6.out.cell 4; replace t1 := D6.out.T.cell 1; replace t2 := D6.out.T.cell 2; replace t3 := D6.out.T.cell 3; replace sc := D6.out.O.o3.cellAt k (by omega); rw [List.getElem?_map, HQ.out] at sc; replace sf := D6.out.O.o3.frozenAt k))
  rename_i hHeld
  clear hHeld
  have HDO : Hid ({ x with spot := x.spot.set k t } = doS x ⟨0, k, part, slot, ticks⟩) := by unfold Hid doS; rw [if_pos rfl, HT.out]; rfl
  have D7 := Lib.hid (D6.out.spot k t)
  have B7 := Lib.hid (B6.out.setCell (p := ⟨g3, k, none⟩) (own_ge D6.out.O.o3).1 (.int .i64 t))
  clear sc sf
  generalize hw7 : w'.setCell ⟨g3, k, none⟩ (.int .i64 t) = w7 at D7 B7 ⊢
  clear hw7
  clear y0 y1 y2 y3 y4 x0 x1 x2 x3 t0 t1 t2 t3 z0 z1 z2 z3 f0 f1 f2 f3 nx nx' ny ny' nt nt'
  obtain ⟨t0, t1, t2, t3⟩ := blk4 D7.out.T
  obtain ⟨z0, z1, z2, z3⟩ := blk4 D7.out.Z
  obtain ⟨f0, f1, f2, f3⟩ := frz D7.out.Z
  go_wp2_with fail
  obtain ⟨Z8, P8⟩ := D7.out.done B7.out
  unfold resW at Z8 P8
  generalize (((w7.setCell ⟨w.heap.size + 1 + 1, 0, none⟩ (.int .i64 x.slots)).setCell ⟨w.heap.size + 1 + 1, 1, none⟩ (.slice (some ⟨g1, 0, none⟩) n1 d1)).setCell ⟨w.heap.size + 1 + 1, 2, none⟩ (.slice (some ⟨g2, 0, none⟩) n1 d2)).setCell ⟨w.heap.size + 1 + 1, 3, none⟩ (.slice (some ⟨g3, 0, none⟩) n3 d3) = w8 at Z8 P8 ⊢
  clear t0 t1 t2 t3 z0 z1 z2 z3 f0 f1 f2 f3
  obtain ⟨z0, z1, z2, z3⟩ := blk4 Z8.out
  exact bodyPost_ret (v := .tuple #[.agg #[.int .i64 x.slots, .slice (some ⟨g1, 0, none⟩) n1 d1, .slice (some ⟨g2, 0, none⟩) n1 d2, .slice (some ⟨g3, 0, none⟩) n3 d3], .int .i64 0]) (by simp [results, Try.results24, go_sem, z0, z1, z2, z3]) rfl ⟨g1, g2, g3, d1, d2, d3, rfl, by rw [← HDO.out]; exact P8.out.1, P8.out.2⟩
set_option maxHeartbeats 8000000 in
theorem Do_take (k : Nat) (p : Nat) (slot ticks : Int) (w : World) (hx : RW4 w x A1 A2 A3 n1 n1 n3 c1 c2 c3) (hv : ValidA x) (h1 : 0 < n1) (h3 : 0 < n3) (hkn : k < n3) (hpn : p < n1) (HC : Hid (canP x ⟨1, k, p, slot, ticks⟩ = 0)) :
    Calls Try.prog 24 #[.agg #[.int .i64 x.slots, .slice A1 n1 c1, .slice A2 n1 c2, .slice A3 n3 c3], .agg #[.int .i64 1, .int .i64 k, .int .i64 p, .int .i64 slot, .int .i64 ticks]] w fun e w' => ∃ g1 g2 g3 d1 d2 d3, e = .returned (.tuple #[.agg #[.int .i64 x.slots, .slice (some ⟨g1, 0, none⟩) n1 d1, .slice (some ⟨g2, 0, none⟩) n1 d2, .slice (some ⟨g3, 0, none⟩) n3 d3], .int .i64 0]) ∧ OW w.heap.size w' (doS x ⟨1, k, p, slot, ticks⟩) g1 g2 g3 n1 n3 d1 d2 d3 ∧ Below w.heap.size w w' := by
  have B1 := Lib.hid ((Below.refl w.heap.size w).alloc (Nat.le_refl _) (.cells #[.int .i64 x.slots, .slice A1 n1 c1, .slice A2 n1 c2, .slice A3 n3 c3] 25))
  have B2 := Lib.hid (B1.out.alloc B1.out.size (.cells #[.int .i64 1, .int .i64 k, .int .i64 p, .int .i64 slot, .int .i64 ticks] 39))
  have B3 := Lib.hid (B2.out.alloc B2.out.size (.cells #[.int .i64 0, .slice none 0 0, .slice none 0 0, .slice none 0 0] 25))
  have X3 := Lib.hid (((Blk.new w 25 #[.int .i64 x.slots, .slice A1 n1 c1, .slice A2 n1 c2, .slice A3 n3 c3]).alloc (.cells #[.int .i64 1, .int .i64 k, .int .i64 p, .int .i64 slot, .int .i64 ticks] 39)).alloc (.cells #[.int .i64 0, .slice none 0 0, .slice none 0 0, .slice none 0 0] 25))
  have Y3 := Lib.hid ((Blk.new (w.alloc (.cells #[.int .i64 x.slots, .slice A1 n1 c1, .slice A2 n1 c2, .slice A3 n3 c3] 25)) 39 #[.int .i64 1, .int .i64 k, .int .i64 p, .int .i64 slot, .int .i64 ticks]).alloc (.cells #[.int .i64 0, .slice none 0 0, .slice none 0 0, .slice none 0 0] 25))
  have Z3 := Lib.hid (Blk.new ((w.alloc (.cells #[.int .i64 x.slots, .slice A1 n1 c1, .slice A2 n1 c2, .slice A3 n3 c3] 25)).alloc (.cells #[.int .i64 1, .int .i64 k, .int .i64 p, .int .i64 slot, .int .i64 ticks] 39)) 25 #[.int .i64 0, .slice none 0 0, .slice none 0 0, .slice none 0 0])
  simp only [World.size_alloc] at Y3 Z3
  have H := Lib.hid hx
  have V := Lib.hid hv
  clear hx hv B1 B2
  go_enter Try.func24, Try.ntmps24
  go_wp2_with fail
  refine (Can_any x A1 A2 A3 n1 n3 c1 c2 c3 1 k p slot ticks _ (H.out.below B3.out) V.out 0 HC).mono ?_
  rintro e w4 ⟨rfl, hb⟩
  have B4 := Lib.hid (B3.out.trans (hb.mono B3.out.size))
  have X4 := Lib.hid (X3.out.below hb X3.out.lt)
  have Y4 := Lib.hid (Y3.out.below hb Y3.out.lt)
  have Z4 := Lib.hid (Z3.out.below hb Z3.out.lt)
  clear hb X3 Y3 Z3 B3
  obtain ⟨x0, x1, x2, x3⟩ := blk4 X4.out
  obtain ⟨y0, y1, y2, y3, y4⟩ := blk5 Y4.out
  go_wp2_with fail
  refine (Copy_any x A1 A2 A3 n1 n3 c1 c2 c3 _ (H.out.below B4.out) h1 h3).mono ?_
  rintro e w5 ⟨g1, g2, g3, d1, d2, d3, rfl, ho, hb⟩
  have B5 := Lib.hid (B4.out.trans (hb.mono B4.out.size))
  have X5 := Lib.hid (X4.out.below hb X4.out.lt)
  have Y5 := Lib.hid (Y4.out.below hb Y4.out.lt)
  have Z5 := Lib.hid (Z4.out.below hb Z4.out.lt)
  have O5 := Lib.hid ho
  have Z4s := Lib.hid B4.out.size
  clear hb ho X4 Y4 Z4 B4 x0 x1 x2 x3 y0 y1 y2 y3 y4
  have KB := Lib.hid ((Below.refl w5.heap.size w5).alloc (Nat.le_refl _) (.cells #[.int .i64 x.slots, .slice (some ⟨g1, 0, none⟩) n1 d1, .slice (some ⟨g2, 0, none⟩) n1 d2, .slice (some ⟨g3, 0, none⟩) n3 d3] 25))
  have D6 : Hid (DW w.heap.size (w5.alloc (.cells #[.int .i64 x.slots, .slice (some ⟨g1, 0, none⟩) n1 d1, .slice (some ⟨g2, 0, none⟩) n1 d2, .slice (some ⟨g3, 0, none⟩) n3 d3] 25)) x x.slots g1 g2 g3 n1 n3 d1 d2 d3 w5.heap.size) :=
    ⟨Z5.out.alloc _, Blk.new _ _ _, own_mono (own_bel O5.out.o1 KB.out) Z4s.out, own_mono (own_bel O5.out.o2 KB.out) Z4s.out, own_mono (own_bel O5.out.o3 KB.out) Z4s.out, O5.out.ne⟩
  have X6 := Lib.hid (X5.out.below KB.out X5.out.lt)
  have Y6 := Lib.hid (Y5.out.below KB.out Y5.out.lt)
  have B6 := Lib.hid (B5.out.trans (KB.out.mono B5.out.size))
  have HY := Lib.hid (blk5 Y6.out)
  have HZ5 := Lib.hid (And.intro (Nat.lt_of_lt_of_le Z5.out.lt (Nat.le_refl w5.heap.size)) trivial)
  have y0 := HY.out.1
  clear O5 X5 Y5 Z5 B5 KB Z4s HY
  go_wp2_with fail
  have hgt : ∃ gt, gt = w5.heap.size := ⟨_, rfl⟩
  obtain ⟨gt, hgt⟩ := hgt
  rw [← hgt] at D6
  generalize hw6 : w5.alloc (.cells #[.int .i64 x.slots, .slice (some ⟨g1, 0, none⟩) n1 d1, .slice (some ⟨g2, 0, none⟩) n1 d2, .slice (some ⟨g3, 0, none⟩) n3 d3] 25) = w6 at D6 X6 Y6 B6 y0 ⊢
  simp only [← hgt]
  clear hw6 hgt
  obtain ⟨x0, x1, x2, x3⟩ := blk4 X6.out
  obtain ⟨y0, y1, y2, y3, y4⟩ := blk5 Y6.out
  obtain ⟨t0, t1, t2, t3⟩ := blk4 D6.out.T
  obtain ⟨z0, z1, z2, z3⟩ := blk4 D6.out.Z
  obtain ⟨f0, f1, f2, f3⟩ := frz D6.out.Z
  have nx := Ne.symm (blk_ne D6.out.O.o1 X6.out (by decide))
  have nx' := Ne.symm nx
  have ny := Ne.symm (blk_ne D6.out.O.o1 Y6.out (by decide))
  have ny' := Ne.symm ny
  have nt := Ne.symm (blk_ne D6.out.O.o1 D6.out.T (by decide))
  have nt' := Ne.symm nt
  replace B6 := Lib.hid B6.out.drew
  replace X6 := Lib.hid X6.out.drew
  replace Y6 := Lib.hid Y6.out.drew
  replace D6 := Lib.hid D6.out.drew
  have hs1 : x.place.length = n1 := H.out.l1
  obtain ⟨q, hq⟩ := some_at (l := x.place) (k := p) (by rw [hs1]; exact hpn)
  have sc := D6.out.O.o1.cellAt p (by omega)
  rw [List.getElem?_map, hq] at sc
  have sf := D6.out.O.o1.frozenAt p
  have HQ := Lib.hid hq
  have HS := Lib.hid hs1
  have hb3 := H.out.b3
  clear hq hs1
  go_region_held3 (fun W => (W.cell? ⟨w.heap.size, 0, none⟩ = some (.int .i64 x.slots) ∧ W.cell? ⟨w.heap.size, 1, none⟩ = some (.slice A1 n1 c1) ∧ W.cell? ⟨w.heap.size, 2, none⟩ = some (.slice A2 n1 c2) ∧ W.cell? ⟨w.heap.size, 3, none⟩ = some (.slice A3 n3 c3)) ∧ (W.cell? ⟨w.heap.size + 1, 0, none⟩ = some (.int .i64 1) ∧ W.cell? ⟨w.heap.size + 1, 1, none⟩ = some (.int .i64 k) ∧ W.cell? ⟨w.heap.size + 1, 2, none⟩ = some (.int .i64 p) ∧ W.cell? ⟨w.heap.size + 1, 3, none⟩ = some (.int .i64 slot) ∧ W.cell? ⟨w.heap.size + 1, 4, none⟩ = some (.int .i64 ticks)) ∧ W.cell? ⟨gt, 1, none⟩ = some (.slice (some ⟨g1, 0, none⟩) n1 d1) ∧ W.cell? ⟨gt, 2, none⟩ = some (.slice (some ⟨g2, 0, none⟩) n1 d2) ∧ W.cell? ⟨gt, 3, none⟩ = some (.slice (some ⟨g3, 0, none⟩) n3 d3))
    (first | exact ⟨⟨x0, x1, x2, x3⟩, ⟨y0, y1, y2, y3, y4⟩, t1, t2, t3⟩ | go_keep)
    ((go_at_call 33; refine (Held_any k _ (by omega) (by omega)).mono ?_; rintro e w' ⟨rfl, rfl⟩))
  rename_i hHeld
  clear hHeld
  have HDO : Hid ({ x with place := x.place.set p (-2 - (k : Int)) } = doS x ⟨1, k, p, slot, ticks⟩) := by unfold Hid doS; rw [if_neg (show ¬ (1 : Int) = 0 by decide), if_pos rfl]; rfl
  have D7 := Lib.hid (D6.out.place p (-2 - (k : Int)))
  have B7 := Lib.hid (B6.out.setCell (p := ⟨g1, p, none⟩) (own_ge D6.out.O.o1).1 (.int .i64 (-2 - (k : Int))))
  clear sc sf
  rw [World.setCell_drew] at D7 B7
  generalize hw7 : (w6.setCell ⟨g1, p, none⟩ (.int .i64 (-2 - (k : Int)))).drew = w7 at D7 B7 ⊢
  clear hw7
  clear y0 y1 y2 y3 y4 x0 x1 x2 x3 t0 t1 t2 t3 z0 z1 z2 z3 f0 f1 f2 f3 nx nx' ny ny' nt nt'
  obtain ⟨t0, t1, t2, t3⟩ := blk4 D7.out.T
  obtain ⟨z0, z1, z2, z3⟩ := blk4 D7.out.Z
  obtain ⟨f0, f1, f2, f3⟩ := frz D7.out.Z
  go_wp2_with fail
  obtain ⟨Z8, P8⟩ := D7.out.done B7.out
  unfold resW at Z8 P8
  generalize (((w7.setCell ⟨w.heap.size + 1 + 1, 0, none⟩ (.int .i64 x.slots)).setCell ⟨w.heap.size + 1 + 1, 1, none⟩ (.slice (some ⟨g1, 0, none⟩) n1 d1)).setCell ⟨w.heap.size + 1 + 1, 2, none⟩ (.slice (some ⟨g2, 0, none⟩) n1 d2)).setCell ⟨w.heap.size + 1 + 1, 3, none⟩ (.slice (some ⟨g3, 0, none⟩) n3 d3) = w8 at Z8 P8 ⊢
  clear t0 t1 t2 t3 z0 z1 z2 z3 f0 f1 f2 f3
  obtain ⟨z0, z1, z2, z3⟩ := blk4 Z8.out
  exact bodyPost_ret (v := .tuple #[.agg #[.int .i64 x.slots, .slice (some ⟨g1, 0, none⟩) n1 d1, .slice (some ⟨g2, 0, none⟩) n1 d2, .slice (some ⟨g3, 0, none⟩) n3 d3], .int .i64 0]) (by simp [results, Try.results24, go_sem, z0, z1, z2, z3]) rfl ⟨g1, g2, g3, d1, d2, d3, rfl, by rw [← HDO.out]; exact P8.out.1, P8.out.2⟩
set_option maxHeartbeats 8000000 in
theorem Do_look (k : Nat) (p : Nat) (slot ticks : Int) (w : World) (hx : RW4 w x A1 A2 A3 n1 n1 n3 c1 c2 c3) (hv : ValidA x) (h1 : 0 < n1) (h3 : 0 < n3) (hkn : k < n3) (hpn : p < n1) (HC : Hid (canP x ⟨3, k, p, slot, ticks⟩ = 0)) :
    Calls Try.prog 24 #[.agg #[.int .i64 x.slots, .slice A1 n1 c1, .slice A2 n1 c2, .slice A3 n3 c3], .agg #[.int .i64 3, .int .i64 k, .int .i64 p, .int .i64 slot, .int .i64 ticks]] w fun e w' => ∃ g1 g2 g3 d1 d2 d3, e = .returned (.tuple #[.agg #[.int .i64 x.slots, .slice (some ⟨g1, 0, none⟩) n1 d1, .slice (some ⟨g2, 0, none⟩) n1 d2, .slice (some ⟨g3, 0, none⟩) n3 d3], .int .i64 0]) ∧ OW w.heap.size w' (doS x ⟨3, k, p, slot, ticks⟩) g1 g2 g3 n1 n3 d1 d2 d3 ∧ Below w.heap.size w w' := by
  have B1 := Lib.hid ((Below.refl w.heap.size w).alloc (Nat.le_refl _) (.cells #[.int .i64 x.slots, .slice A1 n1 c1, .slice A2 n1 c2, .slice A3 n3 c3] 25))
  have B2 := Lib.hid (B1.out.alloc B1.out.size (.cells #[.int .i64 3, .int .i64 k, .int .i64 p, .int .i64 slot, .int .i64 ticks] 39))
  have B3 := Lib.hid (B2.out.alloc B2.out.size (.cells #[.int .i64 0, .slice none 0 0, .slice none 0 0, .slice none 0 0] 25))
  have X3 := Lib.hid (((Blk.new w 25 #[.int .i64 x.slots, .slice A1 n1 c1, .slice A2 n1 c2, .slice A3 n3 c3]).alloc (.cells #[.int .i64 3, .int .i64 k, .int .i64 p, .int .i64 slot, .int .i64 ticks] 39)).alloc (.cells #[.int .i64 0, .slice none 0 0, .slice none 0 0, .slice none 0 0] 25))
  have Y3 := Lib.hid ((Blk.new (w.alloc (.cells #[.int .i64 x.slots, .slice A1 n1 c1, .slice A2 n1 c2, .slice A3 n3 c3] 25)) 39 #[.int .i64 3, .int .i64 k, .int .i64 p, .int .i64 slot, .int .i64 ticks]).alloc (.cells #[.int .i64 0, .slice none 0 0, .slice none 0 0, .slice none 0 0] 25))
  have Z3 := Lib.hid (Blk.new ((w.alloc (.cells #[.int .i64 x.slots, .slice A1 n1 c1, .slice A2 n1 c2, .slice A3 n3 c3] 25)).alloc (.cells #[.int .i64 3, .int .i64 k, .int .i64 p, .int .i64 slot, .int .i64 ticks] 39)) 25 #[.int .i64 0, .slice none 0 0, .slice none 0 0, .slice none 0 0])
  simp only [World.size_alloc] at Y3 Z3
  have H := Lib.hid hx
  have V := Lib.hid hv
  clear hx hv B1 B2
  go_enter Try.func24, Try.ntmps24
  go_wp2_with fail
  refine (Can_any x A1 A2 A3 n1 n3 c1 c2 c3 3 k p slot ticks _ (H.out.below B3.out) V.out 0 HC).mono ?_
  rintro e w4 ⟨rfl, hb⟩
  have B4 := Lib.hid (B3.out.trans (hb.mono B3.out.size))
  have X4 := Lib.hid (X3.out.below hb X3.out.lt)
  have Y4 := Lib.hid (Y3.out.below hb Y3.out.lt)
  have Z4 := Lib.hid (Z3.out.below hb Z3.out.lt)
  clear hb X3 Y3 Z3 B3
  obtain ⟨x0, x1, x2, x3⟩ := blk4 X4.out
  obtain ⟨y0, y1, y2, y3, y4⟩ := blk5 Y4.out
  go_wp2_with fail
  refine (Copy_any x A1 A2 A3 n1 n3 c1 c2 c3 _ (H.out.below B4.out) h1 h3).mono ?_
  rintro e w5 ⟨g1, g2, g3, d1, d2, d3, rfl, ho, hb⟩
  have B5 := Lib.hid (B4.out.trans (hb.mono B4.out.size))
  have X5 := Lib.hid (X4.out.below hb X4.out.lt)
  have Y5 := Lib.hid (Y4.out.below hb Y4.out.lt)
  have Z5 := Lib.hid (Z4.out.below hb Z4.out.lt)
  have O5 := Lib.hid ho
  have Z4s := Lib.hid B4.out.size
  clear hb ho X4 Y4 Z4 B4 x0 x1 x2 x3 y0 y1 y2 y3 y4
  have KB := Lib.hid ((Below.refl w5.heap.size w5).alloc (Nat.le_refl _) (.cells #[.int .i64 x.slots, .slice (some ⟨g1, 0, none⟩) n1 d1, .slice (some ⟨g2, 0, none⟩) n1 d2, .slice (some ⟨g3, 0, none⟩) n3 d3] 25))
  have D6 : Hid (DW w.heap.size (w5.alloc (.cells #[.int .i64 x.slots, .slice (some ⟨g1, 0, none⟩) n1 d1, .slice (some ⟨g2, 0, none⟩) n1 d2, .slice (some ⟨g3, 0, none⟩) n3 d3] 25)) x x.slots g1 g2 g3 n1 n3 d1 d2 d3 w5.heap.size) :=
    ⟨Z5.out.alloc _, Blk.new _ _ _, own_mono (own_bel O5.out.o1 KB.out) Z4s.out, own_mono (own_bel O5.out.o2 KB.out) Z4s.out, own_mono (own_bel O5.out.o3 KB.out) Z4s.out, O5.out.ne⟩
  have X6 := Lib.hid (X5.out.below KB.out X5.out.lt)
  have Y6 := Lib.hid (Y5.out.below KB.out Y5.out.lt)
  have B6 := Lib.hid (B5.out.trans (KB.out.mono B5.out.size))
  have HY := Lib.hid (blk5 Y6.out)
  have HZ5 := Lib.hid (And.intro (Nat.lt_of_lt_of_le Z5.out.lt (Nat.le_refl w5.heap.size)) trivial)
  obtain ⟨y0, y1, y2, y3, y4⟩ := HY.out
  obtain ⟨t0, t1, t2, t3⟩ := blk4 D6.out.T
  obtain ⟨z0, z1, z2, z3⟩ := blk4 D6.out.Z
  obtain ⟨f0, f1, f2, f3⟩ := frz D6.out.Z
  clear O5 X5 Y5 Z5 B5 KB Z4s HY
  have hs2 : x.seen.length = n1 := H.out.l2
  obtain ⟨q, hq⟩ := some_at (l := x.seen) (k := p) (by rw [hs2]; exact hpn)
  have sc := D6.out.O.o2.cellAt p (by omega)
  rw [List.getElem?_map, hq] at sc
  have sf := D6.out.O.o2.frozenAt p
  have nt := Ne.symm (blk_ne D6.out.O.o2 D6.out.T (by decide))
  have nt' := Ne.symm nt
  have nz := Ne.symm (blk_ne D6.out.O.o2 D6.out.Z (by decide))
  have nz' := Ne.symm nz
  clear hq hs2
  have HDO : Hid ({ x with seen := x.seen.set p true } = doS x ⟨3, k, p, slot, ticks⟩) := by unfold Hid doS; rw [if_neg (show ¬ (3 : Int) = 0 by decide), if_neg (show ¬ (3 : Int) = 1 by decide), if_pos rfl]; rfl
  have D7 := Lib.hid (D6.out.seen p true)
  have B7 := Lib.hid (B6.out.setCell (p := ⟨g2, p, none⟩) (own_ge D6.out.O.o2).1 (.bool true))
  go_wp2_with fail
  clear nt nt' nz nz' sc sf
  obtain ⟨Z8, P8⟩ := D7.out.done B7.out
  unfold resW at Z8 P8
  generalize ((((((w5.alloc (.cells #[.int .i64 x.slots, .slice (some ⟨g1, 0, none⟩) n1 d1, .slice (some ⟨g2, 0, none⟩) n1 d2, .slice (some ⟨g3, 0, none⟩) n3 d3] 25)).setCell ⟨g2, p, none⟩ (.bool true)).setCell ⟨w.heap.size + 1 + 1, 0, none⟩ (.int .i64 x.slots)).setCell ⟨w.heap.size + 1 + 1, 1, none⟩ (.slice (some ⟨g1, 0, none⟩) n1 d1)).setCell ⟨w.heap.size + 1 + 1, 2, none⟩ (.slice (some ⟨g2, 0, none⟩) n1 d2)).setCell ⟨w.heap.size + 1 + 1, 3, none⟩ (.slice (some ⟨g3, 0, none⟩) n3 d3)) = w8 at Z8 P8 ⊢
  clear t0 t1 t2 t3 z0 z1 z2 z3 f0 f1 f2 f3 y0 y1 y2 y3 y4
  obtain ⟨z0, z1, z2, z3⟩ := blk4 Z8.out
  exact bodyPost_ret (v := .tuple #[.agg #[.int .i64 x.slots, .slice (some ⟨g1, 0, none⟩) n1 d1, .slice (some ⟨g2, 0, none⟩) n1 d2, .slice (some ⟨g3, 0, none⟩) n3 d3], .int .i64 0]) (by simp [results, Try.results24, go_sem, z0, z1, z2, z3]) rfl ⟨g1, g2, g3, d1, d2, d3, rfl, by rw [← HDO.out]; exact P8.out.1, P8.out.2⟩
set_option maxHeartbeats 8000000 in
theorem Do_wait (k : Nat) (part slot ticks : Int) (w : World) (hx : RW4 w x A1 A2 A3 n1 n1 n3 c1 c2 c3) (hv : ValidA x) (h1 : 0 < n1) (h3 : 0 < n3) (hkn : k < n3) (HC : Hid (canP x ⟨4, k, part, slot, ticks⟩ = 0)) :
    Calls Try.prog 24 #[.agg #[.int .i64 x.slots, .slice A1 n1 c1, .slice A2 n1 c2, .slice A3 n3 c3], .agg #[.int .i64 4, .int .i64 k, .int .i64 part, .int .i64 slot, .int .i64 ticks]] w fun e w' => ∃ g1 g2 g3 d1 d2 d3, e = .returned (.tuple #[.agg #[.int .i64 x.slots, .slice (some ⟨g1, 0, none⟩) n1 d1, .slice (some ⟨g2, 0, none⟩) n1 d2, .slice (some ⟨g3, 0, none⟩) n3 d3], .int .i64 0]) ∧ OW w.heap.size w' (doS x ⟨4, k, part, slot, ticks⟩) g1 g2 g3 n1 n3 d1 d2 d3 ∧ Below w.heap.size w w' := by
  have B1 := Lib.hid ((Below.refl w.heap.size w).alloc (Nat.le_refl _) (.cells #[.int .i64 x.slots, .slice A1 n1 c1, .slice A2 n1 c2, .slice A3 n3 c3] 25))
  have B2 := Lib.hid (B1.out.alloc B1.out.size (.cells #[.int .i64 4, .int .i64 k, .int .i64 part, .int .i64 slot, .int .i64 ticks] 39))
  have B3 := Lib.hid (B2.out.alloc B2.out.size (.cells #[.int .i64 0, .slice none 0 0, .slice none 0 0, .slice none 0 0] 25))
  have X3 := Lib.hid (((Blk.new w 25 #[.int .i64 x.slots, .slice A1 n1 c1, .slice A2 n1 c2, .slice A3 n3 c3]).alloc (.cells #[.int .i64 4, .int .i64 k, .int .i64 part, .int .i64 slot, .int .i64 ticks] 39)).alloc (.cells #[.int .i64 0, .slice none 0 0, .slice none 0 0, .slice none 0 0] 25))
  have Y3 := Lib.hid ((Blk.new (w.alloc (.cells #[.int .i64 x.slots, .slice A1 n1 c1, .slice A2 n1 c2, .slice A3 n3 c3] 25)) 39 #[.int .i64 4, .int .i64 k, .int .i64 part, .int .i64 slot, .int .i64 ticks]).alloc (.cells #[.int .i64 0, .slice none 0 0, .slice none 0 0, .slice none 0 0] 25))
  have Z3 := Lib.hid (Blk.new ((w.alloc (.cells #[.int .i64 x.slots, .slice A1 n1 c1, .slice A2 n1 c2, .slice A3 n3 c3] 25)).alloc (.cells #[.int .i64 4, .int .i64 k, .int .i64 part, .int .i64 slot, .int .i64 ticks] 39)) 25 #[.int .i64 0, .slice none 0 0, .slice none 0 0, .slice none 0 0])
  simp only [World.size_alloc] at Y3 Z3
  have H := Lib.hid hx
  have V := Lib.hid hv
  clear hx hv B1 B2
  go_enter Try.func24, Try.ntmps24
  go_wp2_with fail
  refine (Can_any x A1 A2 A3 n1 n3 c1 c2 c3 4 k part slot ticks _ (H.out.below B3.out) V.out 0 HC).mono ?_
  rintro e w4 ⟨rfl, hb⟩
  have B4 := Lib.hid (B3.out.trans (hb.mono B3.out.size))
  have X4 := Lib.hid (X3.out.below hb X3.out.lt)
  have Y4 := Lib.hid (Y3.out.below hb Y3.out.lt)
  have Z4 := Lib.hid (Z3.out.below hb Z3.out.lt)
  clear hb X3 Y3 Z3 B3
  obtain ⟨x0, x1, x2, x3⟩ := blk4 X4.out
  obtain ⟨y0, y1, y2, y3, y4⟩ := blk5 Y4.out
  go_wp2_with fail
  refine (Copy_any x A1 A2 A3 n1 n3 c1 c2 c3 _ (H.out.below B4.out) h1 h3).mono ?_
  rintro e w5 ⟨g1, g2, g3, d1, d2, d3, rfl, ho, hb⟩
  have B5 := Lib.hid (B4.out.trans (hb.mono B4.out.size))
  have X5 := Lib.hid (X4.out.below hb X4.out.lt)
  have Y5 := Lib.hid (Y4.out.below hb Y4.out.lt)
  have Z5 := Lib.hid (Z4.out.below hb Z4.out.lt)
  have O5 := Lib.hid ho
  have Z4s := Lib.hid B4.out.size
  clear hb ho X4 Y4 Z4 B4 x0 x1 x2 x3 y0 y1 y2 y3 y4
  have KB := Lib.hid ((Below.refl w5.heap.size w5).alloc (Nat.le_refl _) (.cells #[.int .i64 x.slots, .slice (some ⟨g1, 0, none⟩) n1 d1, .slice (some ⟨g2, 0, none⟩) n1 d2, .slice (some ⟨g3, 0, none⟩) n3 d3] 25))
  have D6 : Hid (DW w.heap.size (w5.alloc (.cells #[.int .i64 x.slots, .slice (some ⟨g1, 0, none⟩) n1 d1, .slice (some ⟨g2, 0, none⟩) n1 d2, .slice (some ⟨g3, 0, none⟩) n3 d3] 25)) x x.slots g1 g2 g3 n1 n3 d1 d2 d3 w5.heap.size) :=
    ⟨Z5.out.alloc _, Blk.new _ _ _, own_mono (own_bel O5.out.o1 KB.out) Z4s.out, own_mono (own_bel O5.out.o2 KB.out) Z4s.out, own_mono (own_bel O5.out.o3 KB.out) Z4s.out, O5.out.ne⟩
  have X6 := Lib.hid (X5.out.below KB.out X5.out.lt)
  have Y6 := Lib.hid (Y5.out.below KB.out Y5.out.lt)
  have B6 := Lib.hid (B5.out.trans (KB.out.mono B5.out.size))
  have HY := Lib.hid (blk5 Y6.out)
  have HZ5 := Lib.hid (And.intro (Nat.lt_of_lt_of_le Z5.out.lt (Nat.le_refl w5.heap.size)) trivial)
  obtain ⟨y0, y1, y2, y3, y4⟩ := HY.out
  obtain ⟨t0, t1, t2, t3⟩ := blk4 D6.out.T
  obtain ⟨z0, z1, z2, z3⟩ := blk4 D6.out.Z
  obtain ⟨f0, f1, f2, f3⟩ := frz D6.out.Z
  clear O5 X5 Y5 Z5 B5 KB Z4s HY
  have HDO : Hid (x = doS x ⟨4, k, part, slot, ticks⟩) := by unfold Hid doS; rw [if_neg (show ¬ (4 : Int) = 0 by decide), if_neg (show ¬ (4 : Int) = 1 by decide), if_neg (show ¬ (4 : Int) = 3 by decide), if_neg (show ¬ (4 : Int) = 2 by decide)]
  have D7 := D6
  have B7 := B6
  clear D6 B6
  go_wp2_with fail
  obtain ⟨Z8, P8⟩ := D7.out.done B7.out
  unfold resW at Z8 P8
  generalize (((((w5.alloc (.cells #[.int .i64 x.slots, .slice (some ⟨g1, 0, none⟩) n1 d1, .slice (some ⟨g2, 0, none⟩) n1 d2, .slice (some ⟨g3, 0, none⟩) n3 d3] 25)).setCell ⟨w.heap.size + 1 + 1, 0, none⟩ (.int .i64 x.slots)).setCell ⟨w.heap.size + 1 + 1, 1, none⟩ (.slice (some ⟨g1, 0, none⟩) n1 d1)).setCell ⟨w.heap.size + 1 + 1, 2, none⟩ (.slice (some ⟨g2, 0, none⟩) n1 d2)).setCell ⟨w.heap.size + 1 + 1, 3, none⟩ (.slice (some ⟨g3, 0, none⟩) n3 d3)) = w8 at Z8 P8 ⊢
  clear t0 t1 t2 t3 z0 z1 z2 z3 f0 f1 f2 f3 y0 y1 y2 y3 y4
  obtain ⟨z0, z1, z2, z3⟩ := blk4 Z8.out
  exact bodyPost_ret (v := .tuple #[.agg #[.int .i64 x.slots, .slice (some ⟨g1, 0, none⟩) n1 d1, .slice (some ⟨g2, 0, none⟩) n1 d2, .slice (some ⟨g3, 0, none⟩) n3 d3], .int .i64 0]) (by simp [results, Try.results24, go_sem, z0, z1, z2, z3]) rfl ⟨g1, g2, g3, d1, d2, d3, rfl, by rw [← HDO.out]; exact P8.out.1, P8.out.2⟩
set_option maxHeartbeats 8000000 in
theorem Do_put (k : Nat) (part slot ticks : Int) (w : World) (hx : RW4 w x A1 A2 A3 n1 n1 n3 c1 c2 c3) (hv : ValidA x) (h1 : 0 < n1) (h3 : 0 < n3) (hkn : k < n3) (p : Nat) (hpn : p < n1) (HH : Hid (holdsP x k = p)) (hk1 : k ≤ 1000) (HC : Hid (canP x ⟨2, k, part, slot, ticks⟩ = 0)) :
    Calls Try.prog 24 #[.agg #[.int .i64 x.slots, .slice A1 n1 c1, .slice A2 n1 c2, .slice A3 n3 c3], .agg #[.int .i64 2, .int .i64 k, .int .i64 part, .int .i64 slot, .int .i64 ticks]] w fun e w' => ∃ g1 g2 g3 d1 d2 d3, e = .returned (.tuple #[.agg #[.int .i64 x.slots, .slice (some ⟨g1, 0, none⟩) n1 d1, .slice (some ⟨g2, 0, none⟩) n1 d2, .slice (some ⟨g3, 0, none⟩) n3 d3], .int .i64 0]) ∧ OW w.heap.size w' (doS x ⟨2, k, part, slot, ticks⟩) g1 g2 g3 n1 n3 d1 d2 d3 ∧ Below w.heap.size w w' := by
  have B1 := Lib.hid ((Below.refl w.heap.size w).alloc (Nat.le_refl _) (.cells #[.int .i64 x.slots, .slice A1 n1 c1, .slice A2 n1 c2, .slice A3 n3 c3] 25))
  have B2 := Lib.hid (B1.out.alloc B1.out.size (.cells #[.int .i64 2, .int .i64 k, .int .i64 part, .int .i64 slot, .int .i64 ticks] 39))
  have B3 := Lib.hid (B2.out.alloc B2.out.size (.cells #[.int .i64 0, .slice none 0 0, .slice none 0 0, .slice none 0 0] 25))
  have X3 := Lib.hid (((Blk.new w 25 #[.int .i64 x.slots, .slice A1 n1 c1, .slice A2 n1 c2, .slice A3 n3 c3]).alloc (.cells #[.int .i64 2, .int .i64 k, .int .i64 part, .int .i64 slot, .int .i64 ticks] 39)).alloc (.cells #[.int .i64 0, .slice none 0 0, .slice none 0 0, .slice none 0 0] 25))
  have Y3 := Lib.hid ((Blk.new (w.alloc (.cells #[.int .i64 x.slots, .slice A1 n1 c1, .slice A2 n1 c2, .slice A3 n3 c3] 25)) 39 #[.int .i64 2, .int .i64 k, .int .i64 part, .int .i64 slot, .int .i64 ticks]).alloc (.cells #[.int .i64 0, .slice none 0 0, .slice none 0 0, .slice none 0 0] 25))
  have Z3 := Lib.hid (Blk.new ((w.alloc (.cells #[.int .i64 x.slots, .slice A1 n1 c1, .slice A2 n1 c2, .slice A3 n3 c3] 25)).alloc (.cells #[.int .i64 2, .int .i64 k, .int .i64 part, .int .i64 slot, .int .i64 ticks] 39)) 25 #[.int .i64 0, .slice none 0 0, .slice none 0 0, .slice none 0 0])
  simp only [World.size_alloc] at Y3 Z3
  have H := Lib.hid hx
  have V := Lib.hid hv
  clear hx hv B1 B2
  go_enter Try.func24, Try.ntmps24
  go_wp2_with fail
  refine (Can_any x A1 A2 A3 n1 n3 c1 c2 c3 2 k part slot ticks _ (H.out.below B3.out) V.out 0 HC).mono ?_
  rintro e w4 ⟨rfl, hb⟩
  have B4 := Lib.hid (B3.out.trans (hb.mono B3.out.size))
  have X4 := Lib.hid (X3.out.below hb X3.out.lt)
  have Y4 := Lib.hid (Y3.out.below hb Y3.out.lt)
  have Z4 := Lib.hid (Z3.out.below hb Z3.out.lt)
  clear hb X3 Y3 Z3 B3
  obtain ⟨x0, x1, x2, x3⟩ := blk4 X4.out
  obtain ⟨y0, y1, y2, y3, y4⟩ := blk5 Y4.out
  go_wp2_with fail
  refine (Copy_any x A1 A2 A3 n1 n3 c1 c2 c3 _ (H.out.below B4.out) h1 h3).mono ?_
  rintro e w5 ⟨g1, g2, g3, d1, d2, d3, rfl, ho, hb⟩
  have B5 := Lib.hid (B4.out.trans (hb.mono B4.out.size))
  have X5 := Lib.hid (X4.out.below hb X4.out.lt)
  have Y5 := Lib.hid (Y4.out.below hb Y4.out.lt)
  have Z5 := Lib.hid (Z4.out.below hb Z4.out.lt)
  have O5 := Lib.hid ho
  have Z4s := Lib.hid B4.out.size
  clear hb ho X4 Y4 Z4 B4 x0 x1 x2 x3 y0 y1 y2 y3 y4
  have KB := Lib.hid ((Below.refl w5.heap.size w5).alloc (Nat.le_refl _) (.cells #[.int .i64 x.slots, .slice (some ⟨g1, 0, none⟩) n1 d1, .slice (some ⟨g2, 0, none⟩) n1 d2, .slice (some ⟨g3, 0, none⟩) n3 d3] 25))
  have D6 : Hid (DW w.heap.size (w5.alloc (.cells #[.int .i64 x.slots, .slice (some ⟨g1, 0, none⟩) n1 d1, .slice (some ⟨g2, 0, none⟩) n1 d2, .slice (some ⟨g3, 0, none⟩) n3 d3] 25)) x x.slots g1 g2 g3 n1 n3 d1 d2 d3 w5.heap.size) :=
    ⟨Z5.out.alloc _, Blk.new _ _ _, own_mono (own_bel O5.out.o1 KB.out) Z4s.out, own_mono (own_bel O5.out.o2 KB.out) Z4s.out, own_mono (own_bel O5.out.o3 KB.out) Z4s.out, O5.out.ne⟩
  have X6 := Lib.hid (X5.out.below KB.out X5.out.lt)
  have Y6 := Lib.hid (Y5.out.below KB.out Y5.out.lt)
  have B6 := Lib.hid (B5.out.trans (KB.out.mono B5.out.size))
  have HY := Lib.hid (blk5 Y6.out)
  have HZ5 := Lib.hid (And.intro (Nat.lt_of_lt_of_le Z5.out.lt (Nat.le_refl w5.heap.size)) trivial)
  obtain ⟨y0, y1, y2, y3, y4⟩ := HY.out
  obtain ⟨x0, x1, x2, x3⟩ := blk4 X6.out
  clear O5 X5 Y5 Z5 B5 KB Z4s HY
  go_wp2_with fail
  refine (Holds_any x A1 A2 A3 n1 n1 n3 c1 c2 c3 _ (H.out.below B6.out) k p (by omega) (by omega) HH).mono ?_
  rintro e w7 ⟨rfl, hb⟩
  have hgt : ∃ gt, gt = w5.heap.size := ⟨_, rfl⟩
  obtain ⟨gt, hgt⟩ := hgt
  rw [← hgt] at D6
  clear y0 y1 y2 y3 y4 x0 x1 x2 x3
  replace B6 := Lib.hid (B6.out.trans (hb.mono B6.out.size))
  replace X6 := Lib.hid (X6.out.below hb X6.out.lt)
  replace Y6 := Lib.hid (Y6.out.below hb Y6.out.lt)
  replace D6 := Lib.hid (D6.out.bel hb)
  clear hb
  simp only [← hgt]
  clear hgt
  obtain ⟨x0, x1, x2, x3⟩ := blk4 X6.out
  obtain ⟨y0, y1, y2, y3, y4⟩ := blk5 Y6.out
  obtain ⟨t0, t1, t2, t3⟩ := blk4 D6.out.T
  obtain ⟨z0, z1, z2, z3⟩ := blk4 D6.out.Z
  obtain ⟨f0, f1, f2, f3⟩ := frz D6.out.Z
  have nx := Ne.symm (blk_ne D6.out.O.o1 X6.out (by decide))
  have nx' := Ne.symm nx
  have ny := Ne.symm (blk_ne D6.out.O.o1 Y6.out (by decide))
  have ny' := Ne.symm ny
  have nt := Ne.symm (blk_ne D6.out.O.o1 D6.out.T (by decide))
  have nt' := Ne.symm nt
  have nx2 := Ne.symm (blk_ne D6.out.O.o2 X6.out (by decide))
  have nx2q := Ne.symm nx2
  have ny2 := Ne.symm (blk_ne D6.out.O.o2 Y6.out (by decide))
  have ny2q := Ne.symm ny2
  have nt2 := Ne.symm (blk_ne D6.out.O.o2 D6.out.T (by decide))
  have nt2q := Ne.symm nt2
  have n12 := own_ne D6.out.O.o1 D6.out.O.o2 (by decide)
  have n12q := Ne.symm n12
  replace B6 := Lib.hid B6.out.drew
  replace X6 := Lib.hid X6.out.drew
  replace Y6 := Lib.hid Y6.out.drew
  replace D6 := Lib.hid D6.out.drew
  have hs1 : x.place.length = n1 := H.out.l1
  have hs2 : x.seen.length = n1 := H.out.l2
  obtain ⟨q, hq⟩ := some_at (l := x.place) (k := p) (by rw [hs1]; exact hpn)
  obtain ⟨q2, hq2⟩ := some_at (l := x.seen) (k := p) (by rw [hs2]; exact hpn)
  have sc := D6.out.O.o1.cellAt p (by omega)
  rw [List.getElem?_map, hq] at sc
  have sf := D6.out.O.o1.frozenAt p
  have sc2 := D6.out.O.o2.cellAt p (by omega)
  rw [List.getElem?_map, hq2] at sc2
  have sf2 := D6.out.O.o2.frozenAt p
  clear hq hs1 hq2 hs2
  replace sc : w7.cell? ⟨g1, p, none⟩ = some (.int .i64 q) := sc
  replace sf : w7.frozen? ⟨g1, p, none⟩ = false := sf
  replace sc2 : w7.cell? ⟨g2, p, none⟩ = some (.bool q2) := sc2
  replace sf2 : w7.frozen? ⟨g2, p, none⟩ = false := sf2
  go_wp2_with fail
  go_region
  have HDO : Hid ({ x with place := x.place.set p slot, seen := x.seen.set p false } = doS x ⟨2, k, part, slot, ticks⟩) := by unfold Hid doS; rw [if_neg (show ¬ (2 : Int) = 0 by decide), if_neg (show ¬ (2 : Int) = 1 by decide), if_neg (show ¬ (2 : Int) = 3 by decide), if_pos rfl, HH.out]; rfl
  have D7 := Lib.hid ((D6.out.place p slot).seen p false)
  have B7 := Lib.hid ((B6.out.setCell (p := ⟨g1, p, none⟩) (own_ge D6.out.O.o1).1 (.int .i64 slot)).setCell (p := ⟨g2, p, none⟩) (own_ge D6.out.O.o2).1 (.bool false))
  clear sc sf sc2 sf2 nx2 nx2q ny2 ny2q nt2 nt2q n12 n12q
  rw [World.setCell_drew, World.setCell_drew] at D7 B7
  generalize hw7 : ((w7.setCell ⟨g1, p, none⟩ (.int .i64 slot)).setCell ⟨g2, p, none⟩ (.bool false)).drew = w8 at D7 B7 ⊢
  clear hw7
  clear y0 y1 y2 y3 y4 x0 x1 x2 x3 t0 t1 t2 t3 z0 z1 z2 z3 f0 f1 f2 f3 nx nx' ny ny' nt nt'
  obtain ⟨t0, t1, t2, t3⟩ := blk4 D7.out.T
  obtain ⟨z0, z1, z2, z3⟩ := blk4 D7.out.Z
  obtain ⟨f0, f1, f2, f3⟩ := frz D7.out.Z
  go_wp2_with fail
  obtain ⟨Z8, P8⟩ := D7.out.done B7.out
  unfold resW at Z8 P8
  generalize (((w8.setCell ⟨w.heap.size + 1 + 1, 0, none⟩ (.int .i64 x.slots)).setCell ⟨w.heap.size + 1 + 1, 1, none⟩ (.slice (some ⟨g1, 0, none⟩) n1 d1)).setCell ⟨w.heap.size + 1 + 1, 2, none⟩ (.slice (some ⟨g2, 0, none⟩) n1 d2)).setCell ⟨w.heap.size + 1 + 1, 3, none⟩ (.slice (some ⟨g3, 0, none⟩) n3 d3) = w9 at Z8 P8 ⊢
  clear t0 t1 t2 t3 z0 z1 z2 z3 f0 f1 f2 f3
  obtain ⟨z0, z1, z2, z3⟩ := blk4 Z8.out
  exact bodyPost_ret (v := .tuple #[.agg #[.int .i64 x.slots, .slice (some ⟨g1, 0, none⟩) n1 d1, .slice (some ⟨g2, 0, none⟩) n1 d2, .slice (some ⟨g3, 0, none⟩) n3 d3], .int .i64 0]) (by simp [results, Try.results24, go_sem, z0, z1, z2, z3]) rfl ⟨g1, g2, g3, d1, d2, d3, rfl, by rw [← HDO.out]; exact P8.out.1, P8.out.2⟩
end
end Go.Proofs.Ytioofkhadjaldaa
