/- The walks of slices.Clone at []int and []bool and of act.Copy. · The walk of act.Do at a valid world. · The walk of act.Do at a valid world: whether it can be done or not. · Plain: a step that can be done leads from a valid world to a valid one. · Maps from integers to bools that the call owns; the world maker's words. -/
import Derived.Test.YtbhbbnmllokglaaOs15
import Derived.Deep.RegionHeld3
import Derived.Test.YtbhbbnmllokglaaOs14
import Derived.Maps.OwnOps
import Derived.Deep.DeepCutAuto
namespace Go.Proofs.Ytbhbbnmllokglaa
open Go.RowKit
set_option linter.unusedVariables false
set_option maxRecDepth 100000

theorem info_int : (Try.prog.info? 3).map (fun i => (i.zero, i.size, i.bytes)) = some (some (.int .i64 0), 1, 8) := by kernel_rfl
theorem info_bool : (Try.prog.info? 4).map (fun i => (i.zero, i.size, i.bytes)) = some (some (.bool false), 1, 1) := by kernel_rfl
set_option maxHeartbeats 1000000 in
theorem clone_int (A : Option Addr) (n c : Nat) (vs : List Value) (w : World) (hb : n ≤ 1000) (hX : Src w (.slice A n c) 1 n vs) (h1 : ∀ u ∈ vs, u.oneCell' = true) :
    Calls Try.prog 43 #[.slice A n c] w fun e w' => ∃ v, e = .returned v ∧ w'.ownsRow w.heap.size 3 1 v n vs ∧ Below w.heap.size w w' := by
  have HX := Lib.hid hX
  have H1 := Lib.hid h1
  have hnl := fun (w : World) (a : Option Addr) (n c : Nat) => Lib.run_eql_slice_nil (P := Try.prog) w 22 3 a n c 0 0 Try.underlying22
  obtain ⟨i0, hi, hz0, hz1, hz2⟩ := info_parts info_int
  clear hX h1
  rcases A with _ | a
  · have h0 : n = 0 ∧ vs = [] := by
      obtain ⟨hl, h⟩ := HX.out
      rcases h with ⟨h, rfl⟩ | ⟨b, o, c', h, _⟩
      · exact ⟨rfl, List.eq_nil_of_length_eq_zero (by simpa using hl)⟩
      · cases h
    obtain ⟨rfl, rfl⟩ := h0
    go_enter Try.func43, Try.ntmps43
    go_wp2_with fail
    go_ret
    exact ⟨_, rfl, World.ownsRow_nil _ _ _ _, Below.refl _ _⟩
  · have hA : ∃ b o, a = ⟨b, o, none⟩ ∧ ∀ (j : Nat) (u : Value), vs[j]? = some u → w.cell? ⟨b, o + j, none⟩ = some u := by
      obtain ⟨_, h⟩ := HX.out
      rcases h with ⟨h, _⟩ | ⟨b, o, c', h, hc⟩
      · cases h
      · cases h; exact ⟨b, o, rfl, hc⟩
    obtain ⟨b, o, rfl, hc⟩ := hA
    have B0 := Lib.hid ((Below.refl w.heap.size w).alloc (Nat.le_refl _) (.cells #[] 3))
    have X0 : Hid (Src (w.alloc (.cells #[] 3)) (.slice (some ⟨b, o, none⟩) n c) 1 n vs) :=
      ⟨HX.out.1, .inr ⟨b, o, c, rfl, fun j u hu => by
        have h := hc j u hu
        exact (B0.out.cell (p := ⟨b, o + j, none⟩) (World.block_lt_of_cell? w _ h)).trans h⟩⟩
    have O0 : Hid ((w.alloc (.cells #[] 3)).ownsRow w.heap.size 3 1 (.slice (some ⟨w.heap.size, 0, none⟩) 0 0) 0 []) := World.ownsRow_lit w #[] 0 (Nat.le_refl _) (by simp [maxLen]) (by simp)
    have S0 := Lib.hid B0.out.size
    clear hc
    go_enter Try.func43, Try.ntmps43
    go_wp2_with (at_builtin; refine wpList_append_src _ rfl (.tmp 5) (.tmp 6) 22 rfl w.heap.size 3 i0 _ 1 8 Try.underlying22 hi hz0 hz1 hz2 rfl (by decide) _ 0 [] rfl O0.out n vs _ rfl X0.out H1.out (by unfold maxLen; omega) (by omega) S0.out ?_; intro v7 w7 hown7 hg7; have B7 := Lib.hid (below_append B0.out O0.out hg7 S0.out); have U7 := Lib.hid hown7; clear hown7 hg7)
    go_ret
    exact ⟨v7, rfl, by simpa using U7.out, B7.out⟩

set_option maxHeartbeats 1000000 in
theorem clone_bool (A : Option Addr) (n c : Nat) (vs : List Value) (w : World) (hb : n ≤ 1000) (hX : Src w (.slice A n c) 1 n vs) (h1 : ∀ u ∈ vs, u.oneCell' = true) :
    Calls Try.prog 44 #[.slice A n c] w fun e w' => ∃ v, e = .returned v ∧ w'.ownsRow w.heap.size 4 1 v n vs ∧ Below w.heap.size w w' := by
  have HX := Lib.hid hX
  have H1 := Lib.hid h1
  have hnl := fun (w : World) (a : Option Addr) (n c : Nat) => Lib.run_eql_slice_nil (P := Try.prog) w 23 4 a n c 0 0 Try.underlying23
  obtain ⟨i0, hi, hz0, hz1, hz2⟩ := info_parts info_bool
  clear hX h1
  rcases A with _ | a
  · have h0 : n = 0 ∧ vs = [] := by
      obtain ⟨hl, h⟩ := HX.out
      rcases h with ⟨h, rfl⟩ | ⟨b, o, c', h, _⟩
      · exact ⟨rfl, List.eq_nil_of_length_eq_zero (by simpa using hl)⟩
      · cases h
    obtain ⟨rfl, rfl⟩ := h0
    go_enter Try.func44, Try.ntmps44
    go_wp2_with fail
    go_ret
    exact ⟨_, rfl, World.ownsRow_nil _ _ _ _, Below.refl _ _⟩
  · have hA : ∃ b o, a = ⟨b, o, none⟩ ∧ ∀ (j : Nat) (u : Value), vs[j]? = some u → w.cell? ⟨b, o + j, none⟩ = some u := by
      obtain ⟨_, h⟩ := HX.out
      rcases h with ⟨h, _⟩ | ⟨b, o, c', h, hc⟩
      · cases h
      · cases h; exact ⟨b, o, rfl, hc⟩
    obtain ⟨b, o, rfl, hc⟩ := hA
    have B0 := Lib.hid ((Below.refl w.heap.size w).alloc (Nat.le_refl _) (.cells #[] 4))
    have X0 : Hid (Src (w.alloc (.cells #[] 4)) (.slice (some ⟨b, o, none⟩) n c) 1 n vs) :=
      ⟨HX.out.1, .inr ⟨b, o, c, rfl, fun j u hu => by
        have h := hc j u hu
        exact (B0.out.cell (p := ⟨b, o + j, none⟩) (World.block_lt_of_cell? w _ h)).trans h⟩⟩
    have O0 : Hid ((w.alloc (.cells #[] 4)).ownsRow w.heap.size 4 1 (.slice (some ⟨w.heap.size, 0, none⟩) 0 0) 0 []) := World.ownsRow_lit w #[] 0 (Nat.le_refl _) (by simp [maxLen]) (by simp)
    have S0 := Lib.hid B0.out.size
    clear hc
    go_enter Try.func44, Try.ntmps44
    go_wp2_with (at_builtin; refine wpList_append_src _ rfl (.tmp 5) (.tmp 6) 23 rfl w.heap.size 4 i0 _ 1 1 Try.underlying23 hi hz0 hz1 hz2 rfl (by decide) _ 0 [] rfl O0.out n vs _ rfl X0.out H1.out (by unfold maxLen; omega) (by omega) S0.out ?_; intro v7 w7 hown7 hg7; have B7 := Lib.hid (below_append B0.out O0.out hg7 S0.out); have U7 := Lib.hid hown7; clear hown7 hg7)
    go_ret
    exact ⟨v7, rfl, by simpa using U7.out, B7.out⟩


/-- A world whose three slices lie in blocks of their own, from B on. -/
structure OW (B : Nat) (w : World) (x : AW) (g1 g2 g3 n1 n3 c1 c2 c3 : Nat) : Prop where
  o1 : w.ownsRow B 3 1 (.slice (some ⟨g1, 0, none⟩) n1 c1) n1 (x.place.map (Value.int .i64))
  o2 : w.ownsRow B 4 1 (.slice (some ⟨g2, 0, none⟩) n1 c2) n1 (x.seen.map Value.bool)
  o3 : w.ownsRow B 3 1 (.slice (some ⟨g3, 0, none⟩) n3 c3) n3 (x.spot.map (Value.int .i64))
  ne : g1 ≠ g3
theorem own_mono {w : World} {B B' : Nat} {e : TypeId} {size n : Nat} {v : Value} {xs : List Value} (h : w.ownsRow B' e size v n xs) (hb : B ≤ B') : w.ownsRow B e size v n xs := by
  refine ⟨h.1, ?_⟩
  rcases h.2 with hn | ⟨g, cap, cur, rfl, hbb, rest⟩
  · exact .inl hn
  · exact .inr ⟨g, cap, cur, rfl, Nat.le_trans hb hbb, rest⟩
theorem own_far {w : World} {B : Nat} {e : TypeId} {size n g c : Nat} {xs : List Value} (h : w.ownsRow B e size (.slice (some ⟨g, 0, none⟩) n c) n xs) (p : Addr) (hp : g ≠ p.block) (u : Value) : (w.setCell p u).ownsRow B e size (.slice (some ⟨g, 0, none⟩) n c) n xs := by
  refine ⟨h.1, ?_⟩
  rcases h.2 with ⟨hn, _⟩ | ⟨g', cap, cur, hv, hbb, hg, rest⟩
  · cases hn
  · cases hv
    exact .inr ⟨g, c, cur, rfl, hbb, (Below.heap_setCell w p u g hp).trans hg, rest⟩

theorem own_far4 {w : World} {B : Nat} {e : TypeId} {size n g c b : Nat} {xs : List Value} (h : w.ownsRow B e size (.slice (some ⟨g, 0, none⟩) n c) n xs) (hb : g ≠ b) (u0 u1 u2 u3 : Value) :
    ((((w.setCell ⟨b, 0, none⟩ u0).setCell ⟨b, 1, none⟩ u1).setCell ⟨b, 2, none⟩ u2).setCell ⟨b, 3, none⟩ u3).ownsRow B e size (.slice (some ⟨g, 0, none⟩) n c) n xs :=
  own_far (own_far (own_far (own_far h ⟨b, 0, none⟩ hb u0) ⟨b, 1, none⟩ hb u1) ⟨b, 2, none⟩ hb u2) ⟨b, 3, none⟩ hb u3

theorem flat_bool (bs : List Bool) : flat (fun b : Bool => [Value.bool b]) bs = bs.map Value.bool := by
  induction bs with
  | nil => rfl
  | cons b bs ih => rw [List.map_cons, ← ih]; rfl
theorem RI.src_ {w : World} {A : Option Addr} {n c : Nat} {xs : List Int} (h : RI w A xs) (hn : xs.length = n) (hp : 0 < n) : Src w (.slice A n c) 1 n (xs.map (Value.int .i64)) := by
  obtain ⟨b, o, rfl, _, hc⟩ := h (by omega)
  refine ⟨by simp [hn], .inr ⟨b, o, c, rfl, fun j u hu => ?_⟩⟩
  rw [List.getElem?_map] at hu
  obtain ⟨x, hx, rfl⟩ := Option.map_eq_some_iff.1 hu
  exact hc j x hx
theorem RBo.src_ {w : World} {A : Option Addr} {n c : Nat} {bs : List Bool} (h : RBo w A bs) (hn : bs.length = n) (hp : 0 < n) : Src w (.slice A n c) 1 n (bs.map Value.bool) := by
  obtain ⟨b, o, rfl, _, hc⟩ := h (by omega)
  refine ⟨by simp [hn], .inr ⟨b, o, c, rfl, fun j u hu => ?_⟩⟩
  rw [List.getElem?_map] at hu
  obtain ⟨x, hx, rfl⟩ := Option.map_eq_some_iff.1 hu
  have := hc j x 0 _ hx rfl
  simpa using this
theorem ints_one (xs : List Int) : ∀ u ∈ xs.map (Value.int .i64), u.oneCell' = true := by intro u hu; obtain ⟨x, _, rfl⟩ := List.mem_map.1 hu; rfl
theorem bools_one (xs : List Bool) : ∀ u ∈ xs.map Value.bool, u.oneCell' = true := by intro u hu; obtain ⟨x, _, rfl⟩ := List.mem_map.1 hu; rfl

set_option maxHeartbeats 8000000 in
theorem Copy_any (x : AW) (A1 A2 A3 : Option Addr) (n1 n3 c1 c2 c3 : Nat) (w : World) (hx : RW4 w x A1 A2 A3 n1 n1 n3 c1 c2 c3) (h1 : 0 < n1) (h3 : 0 < n3) :
    Calls Try.prog 29 #[.agg #[.int .i64 x.slots, .slice A1 n1 c1, .slice A2 n1 c2, .slice A3 n3 c3]] w fun e w' => ∃ g1 g2 g3 d1 d2 d3, e = .returned (.agg #[.int .i64 x.slots, .slice (some ⟨g1, 0, none⟩) n1 d1, .slice (some ⟨g2, 0, none⟩) n1 d2, .slice (some ⟨g3, 0, none⟩) n3 d3]) ∧ OW w.heap.size w' x g1 g2 g3 n1 n3 d1 d2 d3 ∧ Below w.heap.size w w' := by
  have B1 := Lib.hid ((Below.refl w.heap.size w).alloc (Nat.le_refl _) (.cells #[.int .i64 x.slots, .slice A1 n1 c1, .slice A2 n1 c2, .slice A3 n3 c3] 25))
  have X1 := Lib.hid (Blk.new w 25 #[.int .i64 x.slots, .slice A1 n1 c1, .slice A2 n1 c2, .slice A3 n3 c3])
  have H1 := Lib.hid (hx.below B1.out)
  have b1 := hx.b1
  have b3 := hx.b3
  clear hx
  go_enter Try.func29, Try.ntmps29
  go_wp2_with fail
  have B2 := Lib.hid (B1.out.alloc B1.out.size (.cells #[.int .i64 0, .slice none 0 0, .slice none 0 0, .slice none 0 0] 25)).drew
  have X2 : Hid (Blk ((w.alloc (.cells #[.int .i64 x.slots, .slice A1 n1 c1, .slice A2 n1 c2, .slice A3 n3 c3] 25)).alloc (.cells #[.int .i64 0, .slice none 0 0, .slice none 0 0, .slice none 0 0] 25)).drew w.heap.size 25 #[.int .i64 x.slots, .slice A1 n1 c1, .slice A2 n1 c2, .slice A3 n3 c3]) := X1.out.alloc _
  have Y2 : Hid (Blk ((w.alloc (.cells #[.int .i64 x.slots, .slice A1 n1 c1, .slice A2 n1 c2, .slice A3 n3 c3] 25)).alloc (.cells #[.int .i64 0, .slice none 0 0, .slice none 0 0, .slice none 0 0] 25)).drew (w.alloc (.cells #[.int .i64 x.slots, .slice A1 n1 c1, .slice A2 n1 c2, .slice A3 n3 c3] 25)).heap.size 25 #[.int .i64 0, .slice none 0 0, .slice none 0 0, .slice none 0 0]) := Blk.new _ _ _
  simp only [World.size_alloc] at Y2
  have H2 := Lib.hid (H1.out.below (((Below.refl _ _).alloc (Nat.le_refl _) (.cells #[.int .i64 0, .slice none 0 0, .slice none 0 0, .slice none 0 0] 25)).drew))
  generalize hw2 : ((w.alloc (.cells #[.int .i64 x.slots, .slice A1 n1 c1, .slice A2 n1 c2, .slice A3 n3 c3] 25)).alloc (.cells #[.int .i64 0, .slice none 0 0, .slice none 0 0, .slice none 0 0] 25)) = w2 at B2 X2 Y2 H2 ⊢
  clear hw2 B1 X1 H1
  have p1 := Lib.hid (H2.out.ra.place.src_ (c := c1) H2.out.l1 h1)
  have p2 := Lib.hid (RBo.src_ (c := c2) H2.out.ra.seen H2.out.l2 h1)
  have p3 := Lib.hid (H2.out.ra.spot.src_ (c := c3) H2.out.l3 h3)
  have x0 := X2.out.cell 0
  have x1 := X2.out.cell 1
  have x2 := X2.out.cell 2
  have x3 := X2.out.cell 3
  have yy := Y2
  have r0 := yy.out.cell 0
  have r1 := yy.out.cell 1
  have r2 := yy.out.cell 2
  have r3 := yy.out.cell 3
  have f0 := yy.out.frozen 0
  have f1 := yy.out.frozen 1
  have f2 := yy.out.frozen 2
  have f3 := yy.out.frozen 3
  have hq : w.heap.size + 1 < w2.drew.heap.size := Y2.out.lt
  have HQ := Lib.hid hq
  have L := Lib.hid H2.out.l1
  clear hq X2 Y2 H2
  go_region_held3 (fun W => W.cell? ⟨w.heap.size, 0, none⟩ = some (.int .i64 x.slots) ∧ W.cell? ⟨w.heap.size, 1, none⟩ = some (.slice A1 n1 c1) ∧ W.cell? ⟨w.heap.size, 2, none⟩ = some (.slice A2 n1 c2) ∧ W.cell? ⟨w.heap.size, 3, none⟩ = some (.slice A3 n3 c3))
    (first | exact ⟨x0, x1, x2, x3⟩ | go_keep)
    (first
      | (go_at_call 43; refine (clone_int _ _ _ _ _ (by omega) (by first | exact p1.out | exact p3.out) (ints_one _)).mono ?_; rintro e w' ⟨v, rfl, ho, hb⟩; obtain ⟨g, d, hv, hg, _⟩ := ho.form (by omega); subst hv; replace x0 := keep_cell hb x0; replace x1 := keep_cell hb x1; replace x2 := keep_cell hb x2; replace x3 := keep_cell hb x3; replace yy := Lib.hid (yy.out.below hb yy.out.lt); replace p1 := Lib.hid (p1.out.bel hb); replace p2 := Lib.hid (p2.out.bel hb); replace p3 := Lib.hid (p3.out.bel hb); replace r0 := yy.out.cell 0; replace r1 := yy.out.cell 1; replace r2 := yy.out.cell 2; replace r3 := yy.out.cell 3; replace f0 := yy.out.frozen 0; replace f1 := yy.out.frozen 1; replace f2 := yy.out.frozen 2; replace f3 := yy.out.frozen 3; have HO := Lib.hid ho; have HB := Lib.hid hb; clear ho hb)
      | (go_at_call 44; refine (clone_bool _ _ _ _ _ (by omega) p2.out (bools_one _)).mono ?_; rintro e w' ⟨v, rfl, ho, hb⟩; obtain ⟨g, d, hv, hg, _⟩ := ho.form (by omega); subst hv; replace x0 := keep_cell hb x0; replace x1 := keep_cell hb x1; replace x2 := keep_cell hb x2; replace x3 := keep_cell hb x3; replace yy := Lib.hid (yy.out.below hb yy.out.lt); replace p1 := Lib.hid (p1.out.bel hb); replace p2 := Lib.hid (p2.out.bel hb); replace p3 := Lib.hid (p3.out.bel hb); replace r0 := yy.out.cell 0; replace r1 := yy.out.cell 1; replace r2 := yy.out.cell 2; replace r3 := yy.out.cell 3; replace f0 := yy.out.frozen 0; replace f1 := yy.out.frozen 1; replace f2 := yy.out.frozen 2; replace f3 := yy.out.frozen 3; have HO := Lib.hid ho; have HB := Lib.hid hb; clear ho hb))
  rename_i wa ga da hga rta HOa HBa wb gb db hgb rtb HOb HBb rtc hH
  clear hH x0 x1 x2 x3 p1 p2 p3
  go_wp2_with fail
  have Z : Hid (Blk ((((w'.setCell ⟨w.heap.size + 1, 0, none⟩ (.int .i64 x.slots)).setCell ⟨w.heap.size + 1, 1, none⟩ (.slice (some ⟨ga, 0, none⟩) n1 da)).setCell ⟨w.heap.size + 1, 2, none⟩ (.slice (some ⟨gb, 0, none⟩) n1 db)).setCell ⟨w.heap.size + 1, 3, none⟩ (.slice (some ⟨g, 0, none⟩) n3 d)) (w.heap.size + 1) 25 #[.int .i64 x.slots, .slice (some ⟨ga, 0, none⟩) n1 da, .slice (some ⟨gb, 0, none⟩) n1 db, .slice (some ⟨g, 0, none⟩) n3 d]) :=
    (((yy.out.set_ 0 _).set_ 1 _).set_ 2 _).set_ 3 _
  have hq := HQ.out
  have e1 : w.heap.size + 1 < ga := Nat.lt_of_lt_of_le hq hga
  have e2 : w.heap.size + 1 < gb := by omega
  have e3 : w.heap.size + 1 < g := by omega
  have O1 := own_mono (own_bel (own_bel HOa.out HBb.out) HB.out) (show w.heap.size ≤ _ by omega)
  have O2 := own_mono (own_bel HOb.out HB.out) (show w.heap.size ≤ _ by omega)
  have O3 := own_mono HO.out (show w.heap.size ≤ _ by omega)
  have hne : ga ≠ g := by omega
  have P := Lib.hid (And.intro (own_far4 O1 (show ga ≠ w.heap.size + 1 by omega) (.int .i64 x.slots) (.slice (some ⟨ga, 0, none⟩) n1 da) (.slice (some ⟨gb, 0, none⟩) n1 db) (.slice (some ⟨g, 0, none⟩) n3 d)) (And.intro (own_far4 O2 (show gb ≠ w.heap.size + 1 by omega) (.int .i64 x.slots) (.slice (some ⟨ga, 0, none⟩) n1 da) (.slice (some ⟨gb, 0, none⟩) n1 db) (.slice (some ⟨g, 0, none⟩) n3 d)) (own_far4 O3 (show g ≠ w.heap.size + 1 by omega) (.int .i64 x.slots) (.slice (some ⟨ga, 0, none⟩) n1 da) (.slice (some ⟨gb, 0, none⟩) n1 db) (.slice (some ⟨g, 0, none⟩) n3 d))))
  have B0 : Below w.heap.size w w' := B2.out.trans (((HBa.out.trans (HBb.out.mono (by omega))).trans (HB.out.mono (by omega))).mono (by omega))
  have BB := Lib.hid ((((B0.setCell (p := ⟨w.heap.size + 1, 0, none⟩) (by simp) (.int .i64 x.slots)).setCell (p := ⟨w.heap.size + 1, 1, none⟩) (by simp) (.slice (some ⟨ga, 0, none⟩) n1 da)).setCell (p := ⟨w.heap.size + 1, 2, none⟩) (by simp) (.slice (some ⟨gb, 0, none⟩) n1 db)).setCell (p := ⟨w.heap.size + 1, 3, none⟩) (by simp) (.slice (some ⟨g, 0, none⟩) n3 d))
  have RR : ∀ W : World, Blk W (w.heap.size + 1) 25 #[.int .i64 x.slots, .slice (some ⟨ga, 0, none⟩) n1 da, .slice (some ⟨gb, 0, none⟩) n1 db, .slice (some ⟨g, 0, none⟩) n3 d] → W.cell? ⟨w.heap.size + 1, 0, none⟩ = some (.int .i64 x.slots) ∧ W.cell? ⟨w.heap.size + 1, 1, none⟩ = some (.slice (some ⟨ga, 0, none⟩) n1 da) ∧ W.cell? ⟨w.heap.size + 1, 2, none⟩ = some (.slice (some ⟨gb, 0, none⟩) n1 db) ∧ W.cell? ⟨w.heap.size + 1, 3, none⟩ = some (.slice (some ⟨g, 0, none⟩) n3 d) := fun W h => ⟨h.cell 0, h.cell 1, h.cell 2, h.cell 3⟩
  generalize hW : (((w'.setCell ⟨w.heap.size + 1, 0, none⟩ (.int .i64 x.slots)).setCell ⟨w.heap.size + 1, 1, none⟩ (.slice (some ⟨ga, 0, none⟩) n1 da)).setCell ⟨w.heap.size + 1, 2, none⟩ (.slice (some ⟨gb, 0, none⟩) n1 db)).setCell ⟨w.heap.size + 1, 3, none⟩ (.slice (some ⟨g, 0, none⟩) n3 d) = W at Z P BB ⊢
  obtain ⟨z0, z1, z2, z3⟩ := RR W Z.out
  clear RR r0 r1 r2 r3 f0 f1 f2 f3
  exact bodyPost_ret (v := .agg #[.int .i64 x.slots, .slice (some ⟨ga, 0, none⟩) n1 da, .slice (some ⟨gb, 0, none⟩) n1 db, .slice (some ⟨g, 0, none⟩) n3 d]) (by simp [results, Try.results29, go_sem, z0, z1, z2, z3]) rfl ⟨ga, gb, g, da, db, d, rfl, ⟨P.out.1, P.out.2.1, P.out.2.2, hne⟩, BB.out⟩
end Go.Proofs.Ytbhbbnmllokglaa

namespace Go.Proofs.Ytbhbbnmllokglaa
open Go.RowKit
set_option linter.unusedVariables false
set_option maxRecDepth 100000

/-- The world after a step that can be done. -/
def doS (x : AW) (s : St) : AW :=
  if s.kind = 0 then { x with spot := x.spot.set s.arm.toNat (targetP x s) }
  else if s.kind = 1 then { x with place := x.place.set s.part.toNat (-2 - s.arm) }
  else if s.kind = 3 then { x with seen := x.seen.set s.part.toNat true }
  else if s.kind = 2 then { x with place := x.place.set (holdsP x s.arm).toNat s.slot, seen := x.seen.set (holdsP x s.arm).toNat false }
  else x

abbrev wagg (x : AW) (A1 A2 A3 : Option Addr) (n1 n3 c1 c2 c3 : Nat) : Array Value := #[.int .i64 x.slots, .slice A1 n1 c1, .slice A2 n1 c2, .slice A3 n3 c3]
/-- Where Do stands behind its copy: the step's box, the copy's box, the copy. -/
structure DW (h : Nat) (w : World) (x : AW) (sl : Int) (g1 g2 g3 n1 n3 d1 d2 d3 gt : Nat) : Prop where
  Z : Blk w (h + 1 + 1) 25 #[.int .i64 0, .slice none 0 0, .slice none 0 0, .slice none 0 0]
  T : Blk w gt 25 #[.int .i64 sl, .slice (some ⟨g1, 0, none⟩) n1 d1, .slice (some ⟨g2, 0, none⟩) n1 d2, .slice (some ⟨g3, 0, none⟩) n3 d3]
  O : OW h w x g1 g2 g3 n1 n3 d1 d2 d3
section
variable {h : Nat} {w w' : World} {x : AW} {sl : Int} {g1 g2 g3 n1 n3 d1 d2 d3 gt : Nat}
theorem OW.bel (ho : OW h w x g1 g2 g3 n1 n3 d1 d2 d3) (hb : Below w.heap.size w w') : OW h w' x g1 g2 g3 n1 n3 d1 d2 d3 := ⟨own_bel ho.o1 hb, own_bel ho.o2 hb, own_bel ho.o3 hb, ho.ne⟩
theorem DW.bel (hd : DW h w x sl g1 g2 g3 n1 n3 d1 d2 d3 gt) (hb : Below w.heap.size w w') : DW h w' x sl g1 g2 g3 n1 n3 d1 d2 d3 gt :=
  ⟨hd.Z.below hb hd.Z.lt, hd.T.below hb hd.T.lt, hd.O.bel hb⟩
theorem DW.drew (hd : DW h w x sl g1 g2 g3 n1 n3 d1 d2 d3 gt) : DW h w.drew x sl g1 g2 g3 n1 n3 d1 d2 d3 gt := ⟨hd.Z.drew, hd.T.drew, ⟨hd.O.o1, hd.O.o2, hd.O.o3, hd.O.ne⟩⟩
theorem blk_neA {b g c n : Nat} {e t : TypeId} {size : Nat} {xs : List Value} {cs : Array Value} (ho : w.ownsRow h e size (.slice (some ⟨g, 0, none⟩) n c) n xs) (hg : Blk w b t cs) (hne : e ≠ t) : g ≠ b := by
  have := own_blk_ne ho hg hne
  intro he
  subst he
  exact this rfl
theorem own_ne {a b c d n m : Nat} {e t : TypeId} {k l : Nat} {xs ys : List Value} (h1 : w.ownsRow h e k (.slice (some ⟨a, 0, none⟩) n c) n xs) (h2 : w.ownsRow h t l (.slice (some ⟨b, 0, none⟩) m d) m ys) (hne : e ≠ t) : a ≠ b := by
  have := own_own_ne h1 h2 hne
  rcases this with h0 | h0
  · simp [Value.ownBlock] at h0
  · intro he; subst he; exact h0 rfl
theorem own_ge {g c n : Nat} {e : TypeId} {size : Nat} {xs : List Value} (ho : w.ownsRow h e size (.slice (some ⟨g, 0, none⟩) n c) n xs) : h ≤ g ∧ g < w.heap.size := ho.lt g rfl
theorem set_map {α : Type} (f : α → Value) (xs : List α) (k : Nat) (v : α) : (xs.map f).set k (f v) = (xs.set k v).map f := by rw [List.map_set]
theorem DW.spot (hd : DW h w x sl g1 g2 g3 n1 n3 d1 d2 d3 gt) (k : Nat) (v : Int) : DW h (w.setCell ⟨g3, k, none⟩ (.int .i64 v)) { x with spot := x.spot.set k v } sl g1 g2 g3 n1 n3 d1 d2 d3 gt :=
  ⟨hd.Z.far (Ne.symm (blk_neA hd.O.o3 hd.Z (by decide))) _, hd.T.far (Ne.symm (blk_neA hd.O.o3 hd.T (by decide))) _,
    ⟨own_far hd.O.o1 ⟨g3, k, none⟩ hd.O.ne _, own_far hd.O.o2 ⟨g3, k, none⟩ (own_ne hd.O.o2 hd.O.o3 (by decide)) _, by rw [← set_map]; exact (hd.O.o3.stored k _).1, hd.O.ne⟩⟩
theorem DW.place (hd : DW h w x sl g1 g2 g3 n1 n3 d1 d2 d3 gt) (k : Nat) (v : Int) : DW h (w.setCell ⟨g1, k, none⟩ (.int .i64 v)) { x with place := x.place.set k v } sl g1 g2 g3 n1 n3 d1 d2 d3 gt :=
  ⟨hd.Z.far (Ne.symm (blk_neA hd.O.o1 hd.Z (by decide))) _, hd.T.far (Ne.symm (blk_neA hd.O.o1 hd.T (by decide))) _,
    ⟨by rw [← set_map]; exact (hd.O.o1.stored k _).1, own_far hd.O.o2 ⟨g1, k, none⟩ (own_ne hd.O.o2 hd.O.o1 (by decide)) _, own_far hd.O.o3 ⟨g1, k, none⟩ (Ne.symm hd.O.ne) _, hd.O.ne⟩⟩
theorem DW.seen (hd : DW h w x sl g1 g2 g3 n1 n3 d1 d2 d3 gt) (k : Nat) (v : Bool) : DW h (w.setCell ⟨g2, k, none⟩ (.bool v)) { x with seen := x.seen.set k v } sl g1 g2 g3 n1 n3 d1 d2 d3 gt :=
  ⟨hd.Z.far (Ne.symm (blk_neA hd.O.o2 hd.Z (by decide))) _, hd.T.far (Ne.symm (blk_neA hd.O.o2 hd.T (by decide))) _,
    ⟨own_far hd.O.o1 ⟨g2, k, none⟩ (own_ne hd.O.o1 hd.O.o2 (by decide)) _, by rw [← set_map]; exact (hd.O.o2.stored k _).1, own_far hd.O.o3 ⟨g2, k, none⟩ (own_ne hd.O.o3 hd.O.o2 (by decide)) _, hd.O.ne⟩⟩
/-- The result's box takes the copy. -/
abbrev resW (w : World) (h : Nat) (sl : Int) (g1 g2 g3 n1 n3 d1 d2 d3 : Nat) : World := (((w.setCell ⟨h + 1 + 1, 0, none⟩ (.int .i64 sl)).setCell ⟨h + 1 + 1, 1, none⟩ (.slice (some ⟨g1, 0, none⟩) n1 d1)).setCell ⟨h + 1 + 1, 2, none⟩ (.slice (some ⟨g2, 0, none⟩) n1 d2)).setCell ⟨h + 1 + 1, 3, none⟩ (.slice (some ⟨g3, 0, none⟩) n3 d3)
theorem DW.done {w0 : World} (hd : DW w0.heap.size w x sl g1 g2 g3 n1 n3 d1 d2 d3 gt) (hb : Below w0.heap.size w0 w) :
    Hid (Blk (resW w w0.heap.size sl g1 g2 g3 n1 n3 d1 d2 d3) (w0.heap.size + 1 + 1) 25 #[.int .i64 sl, .slice (some ⟨g1, 0, none⟩) n1 d1, .slice (some ⟨g2, 0, none⟩) n1 d2, .slice (some ⟨g3, 0, none⟩) n3 d3]) ∧
      Hid (OW w0.heap.size (resW w w0.heap.size sl g1 g2 g3 n1 n3 d1 d2 d3) x g1 g2 g3 n1 n3 d1 d2 d3 ∧ Below w0.heap.size w0 (resW w w0.heap.size sl g1 g2 g3 n1 n3 d1 d2 d3)) := by
  refine ⟨(((hd.Z.set_ 0 _).set_ 1 _).set_ 2 _).set_ 3 _, ⟨?_, ?_⟩⟩
  · exact ⟨own_far4 hd.O.o1 (blk_neA hd.O.o1 hd.Z (by decide)) _ _ _ _, own_far4 hd.O.o2 (blk_neA hd.O.o2 hd.Z (by decide)) _ _ _ _, own_far4 hd.O.o3 (blk_neA hd.O.o3 hd.Z (by decide)) _ _ _ _, hd.O.ne⟩
  · have hh : w0.heap.size ≤ w0.heap.size + 1 + 1 := by omega
    exact (((hb.setCell (p := ⟨w0.heap.size + 1 + 1, 0, none⟩) hh _).setCell (p := ⟨w0.heap.size + 1 + 1, 1, none⟩) hh _).setCell (p := ⟨w0.heap.size + 1 + 1, 2, none⟩) hh _).setCell (p := ⟨w0.heap.size + 1 + 1, 3, none⟩) hh _
theorem blk4 {W : World} {b : Nat} {t : TypeId} {a0 a1 a2 a3 : Value} (h : Blk W b t #[a0, a1, a2, a3]) : W.cell? ⟨b, 0, none⟩ = some a0 ∧ W.cell? ⟨b, 1, none⟩ = some a1 ∧ W.cell? ⟨b, 2, none⟩ = some a2 ∧ W.cell? ⟨b, 3, none⟩ = some a3 := ⟨h.cell 0, h.cell 1, h.cell 2, h.cell 3⟩
theorem blk5 {W : World} {b : Nat} {t : TypeId} {a0 a1 a2 a3 a4 : Value} (h : Blk W b t #[a0, a1, a2, a3, a4]) : W.cell? ⟨b, 0, none⟩ = some a0 ∧ W.cell? ⟨b, 1, none⟩ = some a1 ∧ W.cell? ⟨b, 2, none⟩ = some a2 ∧ W.cell? ⟨b, 3, none⟩ = some a3 ∧ W.cell? ⟨b, 4, none⟩ = some a4 := ⟨h.cell 0, h.cell 1, h.cell 2, h.cell 3, h.cell 4⟩
theorem frz {W : World} {b : Nat} {t : TypeId} {cs : Array Value} (h : Blk W b t cs) : W.frozen? ⟨b, 0, none⟩ = false ∧ W.frozen? ⟨b, 1, none⟩ = false ∧ W.frozen? ⟨b, 2, none⟩ = false ∧ W.frozen? ⟨b, 3, none⟩ = false := ⟨h.frozen 0, h.frozen 1, h.frozen 2, h.frozen 3⟩
end

section
variable (x : AW) (A1 A2 A3 : Option Addr) (n1 n3 c1 c2 c3 : Nat)
theorem target_f (kind arm part slot ticks : Int) (w : World) (hx : RW4 w x A1 A2 A3 n1 n1 n3 c1 c2 c3) (r : Int) (hr : Hid (targetP x ⟨kind, arm, part, slot, ticks⟩ = r)) :
    Calls Try.prog 38 #[.agg #[.int .i64 x.slots, .slice A1 n1 c1, .slice A2 n1 c2, .slice A3 n3 c3], .agg #[.int .i64 kind, .int .i64 arm, .int .i64 part, .int .i64 slot, .int .i64 ticks]] w fun e w' => e = .returned (.int .i64 r) ∧ Below w.heap.size w w' :=
  target_any x A1 A2 A3 n1 n1 n3 c1 c2 c3 ⟨kind, arm, part, slot, ticks⟩ w hx r hr
set_option maxHeartbeats 8000000 in
theorem Do_go (k : Nat) (part slot ticks : Int) (w : World) (hx : RW4 w x A1 A2 A3 n1 n1 n3 c1 c2 c3) (hv : ValidA x) (h1 : 0 < n1) (h3 : 0 < n3) (hkn : k < n3) (HC : Hid (canP x ⟨0, k, part, slot, ticks⟩ = 0)) :
    Calls Try.prog 21 #[.agg #[.int .i64 x.slots, .slice A1 n1 c1, .slice A2 n1 c2, .slice A3 n3 c3], .agg #[.int .i64 0, .int .i64 k, .int .i64 part, .int .i64 slot, .int .i64 ticks]] w fun e w' => ∃ g1 g2 g3 d1 d2 d3, e = .returned (.tuple #[.agg #[.int .i64 x.slots, .slice (some ⟨g1, 0, none⟩) n1 d1, .slice (some ⟨g2, 0, none⟩) n1 d2, .slice (some ⟨g3, 0, none⟩) n3 d3], .int .i64 0]) ∧ OW w.heap.size w' (doS x ⟨0, k, part, slot, ticks⟩) g1 g2 g3 n1 n3 d1 d2 d3 ∧ Below w.heap.size w w' := by
  have B1 := Lib.hid ((Below.refl w.heap.size w).alloc (Nat.le_refl _) (.cells #[.int .i64 x.slots, .slice A1 n1 c1, .slice A2 n1 c2, .slice A3 n3 c3] 25))
  have B2 := Lib.hid (B1.out.alloc B1.out.size (.cells #[.int .i64 0, .int .i64 k, .int .i64 part, .int .i64 slot, .int .i64 ticks] 79))
  have B3 := Lib.hid (B2.out.alloc B2.out.size (.cells #[.int .i64 0, .slice none 0 0, .slice none 0 0, .slice none 0 0] 25))
  have X3 := Lib.hid (((Blk.new w 25 #[.int .i64 x.slots, .slice A1 n1 c1, .slice A2 n1 c2, .slice A3 n3 c3]).alloc (.cells #[.int .i64 0, .int .i64 k, .int .i64 part, .int .i64 slot, .int .i64 ticks] 79)).alloc (.cells #[.int .i64 0, .slice none 0 0, .slice none 0 0, .slice none 0 0] 25))
  have Y3 := Lib.hid ((Blk.new (w.alloc (.cells #[.int .i64 x.slots, .slice A1 n1 c1, .slice A2 n1 c2, .slice A3 n3 c3] 25)) 79 #[.int .i64 0, .int .i64 k, .int .i64 part, .int .i64 slot, .int .i64 ticks]).alloc (.cells #[.int .i64 0, .slice none 0 0, .slice none 0 0, .slice none 0 0] 25))
  have Z3 := Lib.hid (Blk.new ((w.alloc (.cells #[.int .i64 x.slots, .slice A1 n1 c1, .slice A2 n1 c2, .slice A3 n3 c3] 25)).alloc (.cells #[.int .i64 0, .int .i64 k, .int .i64 part, .int .i64 slot, .int .i64 ticks] 79)) 25 #[.int .i64 0, .slice none 0 0, .slice none 0 0, .slice none 0 0])
  simp only [World.size_alloc] at Y3 Z3
  have H := Lib.hid hx
  have V := Lib.hid hv
  clear hx hv B1 B2
  go_enter Try.func21, Try.ntmps21
  go_wp2_with fail
  refine (Can_any x A1 A2 A3 n1 n3 c1 c2 c3 0 k part slot ticks _ (H.out.below B3.out) V.out 0 HC).mono ?_
  rintro e w4 ⟨rfl, hb⟩
  have B4 := Lib.hid (B3.out.trans (hb.mono B3.out.size))
  have X4 := Lib.hid (X3.out.below hb X3.out.lt)
  have Y4 := Lib.hid (Y3.out.below hb Y3.out.lt)
  have Z4 := Lib.hid (Z3.out.below hb Z3.out.lt)
  clear hb X3 Y3 Z3 B3
  obtain ⟨x0, x1, x2, x3⟩ := blk4 X4.out
  obtain ⟨y0, y1, y2, y3, y4⟩ := blk5 Y4.out
  go_wp2_with fail
  refine (Copy_any x A1 A2 A3 n1 n3 c1 c2 c3 _ (H.out.below B4.out) h1 h3).mono ?_
  rintro e w5 ⟨g1, g2, g3, d1, d2, d3, rfl, ho, hb⟩
  have B5 := Lib.hid (B4.out.trans (hb.mono B4.out.size))
  have X5 := Lib.hid (X4.out.below hb X4.out.lt)
  have Y5 := Lib.hid (Y4.out.below hb Y4.out.lt)
  have Z5 := Lib.hid (Z4.out.below hb Z4.out.lt)
  have O5 := Lib.hid ho
  have Z4s := Lib.hid B4.out.size
  clear hb ho X4 Y4 Z4 B4 x0 x1 x2 x3 y0 y1 y2 y3 y4
  have KB := Lib.hid ((Below.refl w5.heap.size w5).alloc (Nat.le_refl _) (.cells #[.int .i64 x.slots, .slice (some ⟨g1, 0, none⟩) n1 d1, .slice (some ⟨g2, 0, none⟩) n1 d2, .slice (some ⟨g3, 0, none⟩) n3 d3] 25))
  have D6 : Hid (DW w.heap.size (w5.alloc (.cells #[.int .i64 x.slots, .slice (some ⟨g1, 0, none⟩) n1 d1, .slice (some ⟨g2, 0, none⟩) n1 d2, .slice (some ⟨g3, 0, none⟩) n3 d3] 25)) x x.slots g1 g2 g3 n1 n3 d1 d2 d3 w5.heap.size) :=
    ⟨Z5.out.alloc _, Blk.new _ _ _, own_mono (own_bel O5.out.o1 KB.out) Z4s.out, own_mono (own_bel O5.out.o2 KB.out) Z4s.out, own_mono (own_bel O5.out.o3 KB.out) Z4s.out, O5.out.ne⟩
  have X6 := Lib.hid (X5.out.below KB.out X5.out.lt)
  have Y6 := Lib.hid (Y5.out.below KB.out Y5.out.lt)
  have B6 := Lib.hid (B5.out.trans (KB.out.mono B5.out.size))
  have HY := Lib.hid (blk5 Y6.out)
  have HZ5 := Lib.hid (And.intro (Nat.lt_of_lt_of_le Z5.out.lt (Nat.le_refl w5.heap.size)) trivial)
  have y0 := HY.out.1
  clear O5 X5 Y5 Z5 B5 KB Z4s HY
  go_wp2_with fail
  have hgt : ∃ gt, gt = w5.heap.size := ⟨_, rfl⟩
  obtain ⟨gt, hgt⟩ := hgt
  rw [← hgt] at D6
  generalize hw6 : w5.alloc (.cells #[.int .i64 x.slots, .slice (some ⟨g1, 0, none⟩) n1 d1, .slice (some ⟨g2, 0, none⟩) n1 d2, .slice (some ⟨g3, 0, none⟩) n3 d3] 25) = w6 at D6 X6 Y6 B6 y0 ⊢
  simp only [← hgt]
  clear hw6 hgt
  obtain ⟨x0, x1, x2, x3⟩ := blk4 X6.out
  obtain ⟨y0, y1, y2, y3, y4⟩ := blk5 Y6.out
  obtain ⟨t0, t1, t2, t3⟩ := blk4 D6.out.T
  obtain ⟨z0, z1, z2, z3⟩ := blk4 D6.out.Z
  obtain ⟨f0, f1, f2, f3⟩ := frz D6.out.Z
  have nx := Ne.symm (blk_neA D6.out.O.o3 X6.out (by decide))
  have nx' := Ne.symm nx
  have ny := Ne.symm (blk_neA D6.out.O.o3 Y6.out (by decide))
  have ny' := Ne.symm ny
  have nt := Ne.symm (blk_neA D6.out.O.o3 D6.out.T (by decide))
  have nt' := Ne.symm nt
  replace B6 := Lib.hid B6.out.drew
  replace X6 := Lib.hid X6.out.drew
  replace Y6 := Lib.hid Y6.out.drew
  replace D6 := Lib.hid D6.out.drew
  have hs3 : x.spot.length = n3 := H.out.l3
  obtain ⟨q, hq⟩ := some_at (l := x.spot) (k := k) (by rw [hs3]; exact hkn)
  have sc := D6.out.O.o3.cellAt k (by omega)
  rw [List.getElem?_map, hq] at sc
  have sf := D6.out.O.o3.frozenAt k
  have HQ := Lib.hid hq
  have HS := Lib.hid hs3
  obtain ⟨t, ht⟩ : ∃ t, targetP x ⟨0, k, part, slot, ticks⟩ = t := ⟨_, rfl⟩
  have HT := Lib.hid ht
  clear hq hs3 ht
  go_region_held3 (fun W => (W.cell? ⟨w.heap.size, 0, none⟩ = some (.int .i64 x.slots) ∧ W.cell? ⟨w.heap.size, 1, none⟩ = some (.slice A1 n1 c1) ∧ W.cell? ⟨w.heap.size, 2, none⟩ = some (.slice A2 n1 c2) ∧ W.cell? ⟨w.heap.size, 3, none⟩ = some (.slice A3 n3 c3)) ∧ (W.cell? ⟨w.heap.size + 1, 0, none⟩ = some (.int .i64 0) ∧ W.cell? ⟨w.heap.size + 1, 1, none⟩ = some (.int .i64 k) ∧ W.cell? ⟨w.heap.size + 1, 2, none⟩ = some (.int .i64 part) ∧ W.cell? ⟨w.heap.size + 1, 3, none⟩ = some (.int .i64 slot) ∧ W.cell? ⟨w.heap.size + 1, 4, none⟩ = some (.int .i64 ticks)) ∧ W.cell? ⟨gt, 1, none⟩ = some (.slice (some ⟨g1, 0, none⟩) n1 d1) ∧ W.cell? ⟨gt, 2, none⟩ = some (.slice (some ⟨g2, 0, none⟩) n1 d2) ∧ W.cell? ⟨gt, 3, none⟩ = some (.slice (some ⟨g3, 0, none⟩) n3 d3))
    (first | exact ⟨⟨x0, x1, x2, x3⟩, ⟨y0, y1, y2, y3, y4⟩, t1, t2, t3⟩ | go_keep)
    ((go_at_call 38; refine (target_f x A1 A2 A3 n1 n3 c1 c2 c3 0 k part slot ticks _ (H.out.below B6.out) t HT).mono ?_; rintro e w' ⟨rfl, hb⟩; replace B6 := Lib.hid (B6.out.trans (hb.mono B6.out.size)); replace X6 := Lib.hid (X6.out.below hb X6.out.lt); replace Y6 := Lib.hid (Y6.out.below hb Y6.out.lt); replace D6 := Lib.hid (D6.out.bel hb); clear hb; replace x0 := X6.out.cell 0; replace x1 := X6.out.cell 1; replace x2 := X6.out.cell 2; replace x3 := X6.out.cell 3; replace y0 := Y6.out.cell 0; replace y1 := Y6.out.cell 1; replace y2 := Y6.out.cell 2; replace y3 := Y6.out.cell 3; replace y4 := Y6.out.cell 4; replace t1 := D6.out.T.cell 1; replace t2 := D6.out.T.cell 2; replace t3 := D6.out.T.cell 3; replace sc := D6.out.O.o3.cellAt k (by omega); rw [List.getElem?_map, HQ.out] at sc; replace sf := D6.out.O.o3.frozenAt k))
  rename_i hHeld
  clear hHeld
  have HDO : Hid ({ x with spot := x.spot.set k t } = doS x ⟨0, k, part, slot, ticks⟩) := by unfold Hid doS; rw [if_pos rfl, HT.out]; rfl
  have D7 := Lib.hid (D6.out.spot k t)
  have B7 := Lib.hid (B6.out.setCell (p := ⟨g3, k, none⟩) (own_ge D6.out.O.o3).1 (.int .i64 t))
  clear sc sf
  generalize hw7 : w'.setCell ⟨g3, k, none⟩ (.int .i64 t) = w7 at D7 B7 ⊢
  clear hw7
  clear y0 y1 y2 y3 y4 x0 x1 x2 x3 t0 t1 t2 t3 z0 z1 z2 z3 f0 f1 f2 f3 nx nx' ny ny' nt nt'
  obtain ⟨t0, t1, t2, t3⟩ := blk4 D7.out.T
  obtain ⟨z0, z1, z2, z3⟩ := blk4 D7.out.Z
  obtain ⟨f0, f1, f2, f3⟩ := frz D7.out.Z
  go_wp2_with fail
  obtain ⟨Z8, P8⟩ := D7.out.done B7.out
  unfold resW at Z8 P8
  generalize (((w7.setCell ⟨w.heap.size + 1 + 1, 0, none⟩ (.int .i64 x.slots)).setCell ⟨w.heap.size + 1 + 1, 1, none⟩ (.slice (some ⟨g1, 0, none⟩) n1 d1)).setCell ⟨w.heap.size + 1 + 1, 2, none⟩ (.slice (some ⟨g2, 0, none⟩) n1 d2)).setCell ⟨w.heap.size + 1 + 1, 3, none⟩ (.slice (some ⟨g3, 0, none⟩) n3 d3) = w8 at Z8 P8 ⊢
  clear t0 t1 t2 t3 z0 z1 z2 z3 f0 f1 f2 f3
  obtain ⟨z0, z1, z2, z3⟩ := blk4 Z8.out
  exact bodyPost_ret (v := .tuple #[.agg #[.int .i64 x.slots, .slice (some ⟨g1, 0, none⟩) n1 d1, .slice (some ⟨g2, 0, none⟩) n1 d2, .slice (some ⟨g3, 0, none⟩) n3 d3], .int .i64 0]) (by simp [results, Try.results21, go_sem, z0, z1, z2, z3]) rfl ⟨g1, g2, g3, d1, d2, d3, rfl, by rw [← HDO.out]; exact P8.out.1, P8.out.2⟩
set_option maxHeartbeats 8000000 in
theorem Do_take (k : Nat) (p : Nat) (slot ticks : Int) (w : World) (hx : RW4 w x A1 A2 A3 n1 n1 n3 c1 c2 c3) (hv : ValidA x) (h1 : 0 < n1) (h3 : 0 < n3) (hkn : k < n3) (hpn : p < n1) (HC : Hid (canP x ⟨1, k, p, slot, ticks⟩ = 0)) :
    Calls Try.prog 21 #[.agg #[.int .i64 x.slots, .slice A1 n1 c1, .slice A2 n1 c2, .slice A3 n3 c3], .agg #[.int .i64 1, .int .i64 k, .int .i64 p, .int .i64 slot, .int .i64 ticks]] w fun e w' => ∃ g1 g2 g3 d1 d2 d3, e = .returned (.tuple #[.agg #[.int .i64 x.slots, .slice (some ⟨g1, 0, none⟩) n1 d1, .slice (some ⟨g2, 0, none⟩) n1 d2, .slice (some ⟨g3, 0, none⟩) n3 d3], .int .i64 0]) ∧ OW w.heap.size w' (doS x ⟨1, k, p, slot, ticks⟩) g1 g2 g3 n1 n3 d1 d2 d3 ∧ Below w.heap.size w w' := by
  have B1 := Lib.hid ((Below.refl w.heap.size w).alloc (Nat.le_refl _) (.cells #[.int .i64 x.slots, .slice A1 n1 c1, .slice A2 n1 c2, .slice A3 n3 c3] 25))
  have B2 := Lib.hid (B1.out.alloc B1.out.size (.cells #[.int .i64 1, .int .i64 k, .int .i64 p, .int .i64 slot, .int .i64 ticks] 79))
  have B3 := Lib.hid (B2.out.alloc B2.out.size (.cells #[.int .i64 0, .slice none 0 0, .slice none 0 0, .slice none 0 0] 25))
  have X3 := Lib.hid (((Blk.new w 25 #[.int .i64 x.slots, .slice A1 n1 c1, .slice A2 n1 c2, .slice A3 n3 c3]).alloc (.cells #[.int .i64 1, .int .i64 k, .int .i64 p, .int .i64 slot, .int .i64 ticks] 79)).alloc (.cells #[.int .i64 0, .slice none 0 0, .slice none 0 0, .slice none 0 0] 25))
  have Y3 := Lib.hid ((Blk.new (w.alloc (.cells #[.int .i64 x.slots, .slice A1 n1 c1, .slice A2 n1 c2, .slice A3 n3 c3] 25)) 79 #[.int .i64 1, .int .i64 k, .int .i64 p, .int .i64 slot, .int .i64 ticks]).alloc (.cells #[.int .i64 0, .slice none 0 0, .slice none 0 0, .slice none 0 0] 25))
  have Z3 := Lib.hid (Blk.new ((w.alloc (.cells #[.int .i64 x.slots, .slice A1 n1 c1, .slice A2 n1 c2, .slice A3 n3 c3] 25)).alloc (.cells #[.int .i64 1, .int .i64 k, .int .i64 p, .int .i64 slot, .int .i64 ticks] 79)) 25 #[.int .i64 0, .slice none 0 0, .slice none 0 0, .slice none 0 0])
  simp only [World.size_alloc] at Y3 Z3
  have H := Lib.hid hx
  have V := Lib.hid hv
  clear hx hv B1 B2
  go_enter Try.func21, Try.ntmps21
  go_wp2_with fail
  refine (Can_any x A1 A2 A3 n1 n3 c1 c2 c3 1 k p slot ticks _ (H.out.below B3.out) V.out 0 HC).mono ?_
  rintro e w4 ⟨rfl, hb⟩
  have B4 := Lib.hid (B3.out.trans (hb.mono B3.out.size))
  have X4 := Lib.hid (X3.out.below hb X3.out.lt)
  have Y4 := Lib.hid (Y3.out.below hb Y3.out.lt)
  have Z4 := Lib.hid (Z3.out.below hb Z3.out.lt)
  clear hb X3 Y3 Z3 B3
  obtain ⟨x0, x1, x2, x3⟩ := blk4 X4.out
  obtain ⟨y0, y1, y2, y3, y4⟩ := blk5 Y4.out
  go_wp2_with fail
  refine (Copy_any x A1 A2 A3 n1 n3 c1 c2 c3 _ (H.out.below B4.out) h1 h3).mono ?_
  rintro e w5 ⟨g1, g2, g3, d1, d2, d3, rfl, ho, hb⟩
  have B5 := Lib.hid (B4.out.trans (hb.mono B4.out.size))
  have X5 := Lib.hid (X4.out.below hb X4.out.lt)
  have Y5 := Lib.hid (Y4.out.below hb Y4.out.lt)
  have Z5 := Lib.hid (Z4.out.below hb Z4.out.lt)
  have O5 := Lib.hid ho
  have Z4s := Lib.hid B4.out.size
  clear hb ho X4 Y4 Z4 B4 x0 x1 x2 x3 y0 y1 y2 y3 y4
  have KB := Lib.hid ((Below.refl w5.heap.size w5).alloc (Nat.le_refl _) (.cells #[.int .i64 x.slots, .slice (some ⟨g1, 0, none⟩) n1 d1, .slice (some ⟨g2, 0, none⟩) n1 d2, .slice (some ⟨g3, 0, none⟩) n3 d3] 25))
  have D6 : Hid (DW w.heap.size (w5.alloc (.cells #[.int .i64 x.slots, .slice (some ⟨g1, 0, none⟩) n1 d1, .slice (some ⟨g2, 0, none⟩) n1 d2, .slice (some ⟨g3, 0, none⟩) n3 d3] 25)) x x.slots g1 g2 g3 n1 n3 d1 d2 d3 w5.heap.size) :=
    ⟨Z5.out.alloc _, Blk.new _ _ _, own_mono (own_bel O5.out.o1 KB.out) Z4s.out, own_mono (own_bel O5.out.o2 KB.out) Z4s.out, own_mono (own_bel O5.out.o3 KB.out) Z4s.out, O5.out.ne⟩
  have X6 := Lib.hid (X5.out.below KB.out X5.out.lt)
  have Y6 := Lib.hid (Y5.out.below KB.out Y5.out.lt)
  have B6 := Lib.hid (B5.out.trans (KB.out.mono B5.out.size))
  have HY := Lib.hid (blk5 Y6.out)
  have HZ5 := Lib.hid (And.intro (Nat.lt_of_lt_of_le Z5.out.lt (Nat.le_refl w5.heap.size)) trivial)
  have y0 := HY.out.1
  clear O5 X5 Y5 Z5 B5 KB Z4s HY
  go_wp2_with fail
  have hgt : ∃ gt, gt = w5.heap.size := ⟨_, rfl⟩
  obtain ⟨gt, hgt⟩ := hgt
  rw [← hgt] at D6
  generalize hw6 : w5.alloc (.cells #[.int .i64 x.slots, .slice (some ⟨g1, 0, none⟩) n1 d1, .slice (some ⟨g2, 0, none⟩) n1 d2, .slice (some ⟨g3, 0, none⟩) n3 d3] 25) = w6 at D6 X6 Y6 B6 y0 ⊢
  simp only [← hgt]
  clear hw6 hgt
  obtain ⟨x0, x1, x2, x3⟩ := blk4 X6.out
  obtain ⟨y0, y1, y2, y3, y4⟩ := blk5 Y6.out
  obtain ⟨t0, t1, t2, t3⟩ := blk4 D6.out.T
  obtain ⟨z0, z1, z2, z3⟩ := blk4 D6.out.Z
  obtain ⟨f0, f1, f2, f3⟩ := frz D6.out.Z
  have nx := Ne.symm (blk_neA D6.out.O.o1 X6.out (by decide))
  have nx' := Ne.symm nx
  have ny := Ne.symm (blk_neA D6.out.O.o1 Y6.out (by decide))
  have ny' := Ne.symm ny
  have nt := Ne.symm (blk_neA D6.out.O.o1 D6.out.T (by decide))
  have nt' := Ne.symm nt
  replace B6 := Lib.hid B6.out.drew
  replace X6 := Lib.hid X6.out.drew
  replace Y6 := Lib.hid Y6.out.drew
  replace D6 := Lib.hid D6.out.drew
  have hs1 : x.place.length = n1 := H.out.l1
  obtain ⟨q, hq⟩ := some_at (l := x.place) (k := p) (by rw [hs1]; exact hpn)
  have sc := D6.out.O.o1.cellAt p (by omega)
  rw [List.getElem?_map, hq] at sc
  have sf := D6.out.O.o1.frozenAt p
  have HQ := Lib.hid hq
  have HS := Lib.hid hs1
  have hb3 := H.out.b3
  clear hq hs1
  go_region_held3 (fun W => (W.cell? ⟨w.heap.size, 0, none⟩ = some (.int .i64 x.slots) ∧ W.cell? ⟨w.heap.size, 1, none⟩ = some (.slice A1 n1 c1) ∧ W.cell? ⟨w.heap.size, 2, none⟩ = some (.slice A2 n1 c2) ∧ W.cell? ⟨w.heap.size, 3, none⟩ = some (.slice A3 n3 c3)) ∧ (W.cell? ⟨w.heap.size + 1, 0, none⟩ = some (.int .i64 1) ∧ W.cell? ⟨w.heap.size + 1, 1, none⟩ = some (.int .i64 k) ∧ W.cell? ⟨w.heap.size + 1, 2, none⟩ = some (.int .i64 p) ∧ W.cell? ⟨w.heap.size + 1, 3, none⟩ = some (.int .i64 slot) ∧ W.cell? ⟨w.heap.size + 1, 4, none⟩ = some (.int .i64 ticks)) ∧ W.cell? ⟨gt, 1, none⟩ = some (.slice (some ⟨g1, 0, none⟩) n1 d1) ∧ W.cell? ⟨gt, 2, none⟩ = some (.slice (some ⟨g2, 0, none⟩) n1 d2) ∧ W.cell? ⟨gt, 3, none⟩ = some (.slice (some ⟨g3, 0, none⟩) n3 d3))
    (first | exact ⟨⟨x0, x1, x2, x3⟩, ⟨y0, y1, y2, y3, y4⟩, t1, t2, t3⟩ | go_keep)
    ((go_at_call 39; refine (Held_any k _ (by omega) (by omega)).mono ?_; rintro e w' ⟨rfl, rfl⟩))
  rename_i hHeld
  clear hHeld
  have HDO : Hid ({ x with place := x.place.set p (-2 - (k : Int)) } = doS x ⟨1, k, p, slot, ticks⟩) := by unfold Hid doS; rw [if_neg (show ¬ (1 : Int) = 0 by decide), if_pos rfl]; rfl
  have D7 := Lib.hid (D6.out.place p (-2 - (k : Int)))
  have B7 := Lib.hid (B6.out.setCell (p := ⟨g1, p, none⟩) (own_ge D6.out.O.o1).1 (.int .i64 (-2 - (k : Int))))
  clear sc sf
  rw [World.setCell_drew] at D7 B7
  generalize hw7 : (w6.setCell ⟨g1, p, none⟩ (.int .i64 (-2 - (k : Int)))).drew = w7 at D7 B7 ⊢
  clear hw7
  clear y0 y1 y2 y3 y4 x0 x1 x2 x3 t0 t1 t2 t3 z0 z1 z2 z3 f0 f1 f2 f3 nx nx' ny ny' nt nt'
  obtain ⟨t0, t1, t2, t3⟩ := blk4 D7.out.T
  obtain ⟨z0, z1, z2, z3⟩ := blk4 D7.out.Z
  obtain ⟨f0, f1, f2, f3⟩ := frz D7.out.Z
  go_wp2_with fail
  obtain ⟨Z8, P8⟩ := D7.out.done B7.out
  unfold resW at Z8 P8
  generalize (((w7.setCell ⟨w.heap.size + 1 + 1, 0, none⟩ (.int .i64 x.slots)).setCell ⟨w.heap.size + 1 + 1, 1, none⟩ (.slice (some ⟨g1, 0, none⟩) n1 d1)).setCell ⟨w.heap.size + 1 + 1, 2, none⟩ (.slice (some ⟨g2, 0, none⟩) n1 d2)).setCell ⟨w.heap.size + 1 + 1, 3, none⟩ (.slice (some ⟨g3, 0, none⟩) n3 d3) = w8 at Z8 P8 ⊢
  clear t0 t1 t2 t3 z0 z1 z2 z3 f0 f1 f2 f3
  obtain ⟨z0, z1, z2, z3⟩ := blk4 Z8.out
  exact bodyPost_ret (v := .tuple #[.agg #[.int .i64 x.slots, .slice (some ⟨g1, 0, none⟩) n1 d1, .slice (some ⟨g2, 0, none⟩) n1 d2, .slice (some ⟨g3, 0, none⟩) n3 d3], .int .i64 0]) (by simp [results, Try.results21, go_sem, z0, z1, z2, z3]) rfl ⟨g1, g2, g3, d1, d2, d3, rfl, by rw [← HDO.out]; exact P8.out.1, P8.out.2⟩
set_option maxHeartbeats 8000000 in
theorem Do_look (k : Nat) (p : Nat) (slot ticks : Int) (w : World) (hx : RW4 w x A1 A2 A3 n1 n1 n3 c1 c2 c3) (hv : ValidA x) (h1 : 0 < n1) (h3 : 0 < n3) (hkn : k < n3) (hpn : p < n1) (HC : Hid (canP x ⟨3, k, p, slot, ticks⟩ = 0)) :
    Calls Try.prog 21 #[.agg #[.int .i64 x.slots, .slice A1 n1 c1, .slice A2 n1 c2, .slice A3 n3 c3], .agg #[.int .i64 3, .int .i64 k, .int .i64 p, .int .i64 slot, .int .i64 ticks]] w fun e w' => ∃ g1 g2 g3 d1 d2 d3, e = .returned (.tuple #[.agg #[.int .i64 x.slots, .slice (some ⟨g1, 0, none⟩) n1 d1, .slice (some ⟨g2, 0, none⟩) n1 d2, .slice (some ⟨g3, 0, none⟩) n3 d3], .int .i64 0]) ∧ OW w.heap.size w' (doS x ⟨3, k, p, slot, ticks⟩) g1 g2 g3 n1 n3 d1 d2 d3 ∧ Below w.heap.size w w' := by
  have B1 := Lib.hid ((Below.refl w.heap.size w).alloc (Nat.le_refl _) (.cells #[.int .i64 x.slots, .slice A1 n1 c1, .slice A2 n1 c2, .slice A3 n3 c3] 25))
  have B2 := Lib.hid (B1.out.alloc B1.out.size (.cells #[.int .i64 3, .int .i64 k, .int .i64 p, .int .i64 slot, .int .i64 ticks] 79))
  have B3 := Lib.hid (B2.out.alloc B2.out.size (.cells #[.int .i64 0, .slice none 0 0, .slice none 0 0, .slice none 0 0] 25))
  have X3 := Lib.hid (((Blk.new w 25 #[.int .i64 x.slots, .slice A1 n1 c1, .slice A2 n1 c2, .slice A3 n3 c3]).alloc (.cells #[.int .i64 3, .int .i64 k, .int .i64 p, .int .i64 slot, .int .i64 ticks] 79)).alloc (.cells #[.int .i64 0, .slice none 0 0, .slice none 0 0, .slice none 0 0] 25))
  have Y3 := Lib.hid ((Blk.new (w.alloc (.cells #[.int .i64 x.slots, .slice A1 n1 c1, .slice A2 n1 c2, .slice A3 n3 c3] 25)) 79 #[.int .i64 3, .int .i64 k, .int .i64 p, .int .i64 slot, .int .i64 ticks]).alloc (.cells #[.int .i64 0, .slice none 0 0, .slice none 0 0, .slice none 0 0] 25))
  have Z3 := Lib.hid (Blk.new ((w.alloc (.cells #[.int .i64 x.slots, .slice A1 n1 c1, .slice A2 n1 c2, .slice A3 n3 c3] 25)).alloc (.cells #[.int .i64 3, .int .i64 k, .int .i64 p, .int .i64 slot, .int .i64 ticks] 79)) 25 #[.int .i64 0, .slice none 0 0, .slice none 0 0, .slice none 0 0])
  simp only [World.size_alloc] at Y3 Z3
  have H := Lib.hid hx
  have V := Lib.hid hv
  clear hx hv B1 B2
  go_enter Try.func21, Try.ntmps21
  go_wp2_with fail
  refine (Can_any x A1 A2 A3 n1 n3 c1 c2 c3 3 k p slot ticks _ (H.out.below B3.out) V.out 0 HC).mono ?_
  rintro e w4 ⟨rfl, hb⟩
  have B4 := Lib.hid (B3.out.trans (hb.mono B3.out.size))
  have X4 := Lib.hid (X3.out.below hb X3.out.lt)
  have Y4 := Lib.hid (Y3.out.below hb Y3.out.lt)
  have Z4 := Lib.hid (Z3.out.below hb Z3.out.lt)
  clear hb X3 Y3 Z3 B3
  obtain ⟨x0, x1, x2, x3⟩ := blk4 X4.out
  obtain ⟨y0, y1, y2, y3, y4⟩ := blk5 Y4.out
  go_wp2_with fail
  refine (Copy_any x A1 A2 A3 n1 n3 c1 c2 c3 _ (H.out.below B4.out) h1 h3).mono ?_
  rintro e w5 ⟨g1, g2, g3, d1, d2, d3, rfl, ho, hb⟩
  have B5 := Lib.hid (B4.out.trans (hb.mono B4.out.size))
  have X5 := Lib.hid (X4.out.below hb X4.out.lt)
  have Y5 := Lib.hid (Y4.out.below hb Y4.out.lt)
  have Z5 := Lib.hid (Z4.out.below hb Z4.out.lt)
  have O5 := Lib.hid ho
  have Z4s := Lib.hid B4.out.size
  clear hb ho X4 Y4 Z4 B4 x0 x1 x2 x3 y0 y1 y2 y3 y4
  have KB := Lib.hid ((Below.refl w5.heap.size w5).alloc (Nat.le_refl _) (.cells #[.int .i64 x.slots, .slice (some ⟨g1, 0, none⟩) n1 d1, .slice (some ⟨g2, 0, none⟩) n1 d2, .slice (some ⟨g3, 0, none⟩) n3 d3] 25))
  have D6 : Hid (DW w.heap.size (w5.alloc (.cells #[.int .i64 x.slots, .slice (some ⟨g1, 0, none⟩) n1 d1, .slice (some ⟨g2, 0, none⟩) n1 d2, .slice (some ⟨g3, 0, none⟩) n3 d3] 25)) x x.slots g1 g2 g3 n1 n3 d1 d2 d3 w5.heap.size) :=
    ⟨Z5.out.alloc _, Blk.new _ _ _, own_mono (own_bel O5.out.o1 KB.out) Z4s.out, own_mono (own_bel O5.out.o2 KB.out) Z4s.out, own_mono (own_bel O5.out.o3 KB.out) Z4s.out, O5.out.ne⟩
  have X6 := Lib.hid (X5.out.below KB.out X5.out.lt)
  have Y6 := Lib.hid (Y5.out.below KB.out Y5.out.lt)
  have B6 := Lib.hid (B5.out.trans (KB.out.mono B5.out.size))
  have HY := Lib.hid (blk5 Y6.out)
  have HZ5 := Lib.hid (And.intro (Nat.lt_of_lt_of_le Z5.out.lt (Nat.le_refl w5.heap.size)) trivial)
  obtain ⟨y0, y1, y2, y3, y4⟩ := HY.out
  obtain ⟨t0, t1, t2, t3⟩ := blk4 D6.out.T
  obtain ⟨z0, z1, z2, z3⟩ := blk4 D6.out.Z
  obtain ⟨f0, f1, f2, f3⟩ := frz D6.out.Z
  clear O5 X5 Y5 Z5 B5 KB Z4s HY
  have hs2 : x.seen.length = n1 := H.out.l2
  obtain ⟨q, hq⟩ := some_at (l := x.seen) (k := p) (by rw [hs2]; exact hpn)
  have sc := D6.out.O.o2.cellAt p (by omega)
  rw [List.getElem?_map, hq] at sc
  have sf := D6.out.O.o2.frozenAt p
  have nt := Ne.symm (blk_neA D6.out.O.o2 D6.out.T (by decide))
  have nt' := Ne.symm nt
  have nz := Ne.symm (blk_neA D6.out.O.o2 D6.out.Z (by decide))
  have nz' := Ne.symm nz
  clear hq hs2
  have HDO : Hid ({ x with seen := x.seen.set p true } = doS x ⟨3, k, p, slot, ticks⟩) := by unfold Hid doS; rw [if_neg (show ¬ (3 : Int) = 0 by decide), if_neg (show ¬ (3 : Int) = 1 by decide), if_pos rfl]; rfl
  have D7 := Lib.hid (D6.out.seen p true)
  have B7 := Lib.hid (B6.out.setCell (p := ⟨g2, p, none⟩) (own_ge D6.out.O.o2).1 (.bool true))
  go_wp2_with fail
  clear nt nt' nz nz' sc sf
  obtain ⟨Z8, P8⟩ := D7.out.done B7.out
  unfold resW at Z8 P8
  generalize ((((((w5.alloc (.cells #[.int .i64 x.slots, .slice (some ⟨g1, 0, none⟩) n1 d1, .slice (some ⟨g2, 0, none⟩) n1 d2, .slice (some ⟨g3, 0, none⟩) n3 d3] 25)).setCell ⟨g2, p, none⟩ (.bool true)).setCell ⟨w.heap.size + 1 + 1, 0, none⟩ (.int .i64 x.slots)).setCell ⟨w.heap.size + 1 + 1, 1, none⟩ (.slice (some ⟨g1, 0, none⟩) n1 d1)).setCell ⟨w.heap.size + 1 + 1, 2, none⟩ (.slice (some ⟨g2, 0, none⟩) n1 d2)).setCell ⟨w.heap.size + 1 + 1, 3, none⟩ (.slice (some ⟨g3, 0, none⟩) n3 d3)) = w8 at Z8 P8 ⊢
  clear t0 t1 t2 t3 z0 z1 z2 z3 f0 f1 f2 f3 y0 y1 y2 y3 y4
  obtain ⟨z0, z1, z2, z3⟩ := blk4 Z8.out
  exact bodyPost_ret (v := .tuple #[.agg #[.int .i64 x.slots, .slice (some ⟨g1, 0, none⟩) n1 d1, .slice (some ⟨g2, 0, none⟩) n1 d2, .slice (some ⟨g3, 0, none⟩) n3 d3], .int .i64 0]) (by simp [results, Try.results21, go_sem, z0, z1, z2, z3]) rfl ⟨g1, g2, g3, d1, d2, d3, rfl, by rw [← HDO.out]; exact P8.out.1, P8.out.2⟩
set_option maxHeartbeats 8000000 in
theorem Do_wait (k : Nat) (part slot ticks : Int) (w : World) (hx : RW4 w x A1 A2 A3 n1 n1 n3 c1 c2 c3) (hv : ValidA x) (h1 : 0 < n1) (h3 : 0 < n3) (hkn : k < n3) (HC : Hid (canP x ⟨4, k, part, slot, ticks⟩ = 0)) :
    Calls Try.prog 21 #[.agg #[.int .i64 x.slots, .slice A1 n1 c1, .slice A2 n1 c2, .slice A3 n3 c3], .agg #[.int .i64 4, .int .i64 k, .int .i64 part, .int .i64 slot, .int .i64 ticks]] w fun e w' => ∃ g1 g2 g3 d1 d2 d3, e = .returned (.tuple #[.agg #[.int .i64 x.slots, .slice (some ⟨g1, 0, none⟩) n1 d1, .slice (some ⟨g2, 0, none⟩) n1 d2, .slice (some ⟨g3, 0, none⟩) n3 d3], .int .i64 0]) ∧ OW w.heap.size w' (doS x ⟨4, k, part, slot, ticks⟩) g1 g2 g3 n1 n3 d1 d2 d3 ∧ Below w.heap.size w w' := by
  have B1 := Lib.hid ((Below.refl w.heap.size w).alloc (Nat.le_refl _) (.cells #[.int .i64 x.slots, .slice A1 n1 c1, .slice A2 n1 c2, .slice A3 n3 c3] 25))
  have B2 := Lib.hid (B1.out.alloc B1.out.size (.cells #[.int .i64 4, .int .i64 k, .int .i64 part, .int .i64 slot, .int .i64 ticks] 79))
  have B3 := Lib.hid (B2.out.alloc B2.out.size (.cells #[.int .i64 0, .slice none 0 0, .slice none 0 0, .slice none 0 0] 25))
  have X3 := Lib.hid (((Blk.new w 25 #[.int .i64 x.slots, .slice A1 n1 c1, .slice A2 n1 c2, .slice A3 n3 c3]).alloc (.cells #[.int .i64 4, .int .i64 k, .int .i64 part, .int .i64 slot, .int .i64 ticks] 79)).alloc (.cells #[.int .i64 0, .slice none 0 0, .slice none 0 0, .slice none 0 0] 25))
  have Y3 := Lib.hid ((Blk.new (w.alloc (.cells #[.int .i64 x.slots, .slice A1 n1 c1, .slice A2 n1 c2, .slice A3 n3 c3] 25)) 79 #[.int .i64 4, .int .i64 k, .int .i64 part, .int .i64 slot, .int .i64 ticks]).alloc (.cells #[.int .i64 0, .slice none 0 0, .slice none 0 0, .slice none 0 0] 25))
  have Z3 := Lib.hid (Blk.new ((w.alloc (.cells #[.int .i64 x.slots, .slice A1 n1 c1, .slice A2 n1 c2, .slice A3 n3 c3] 25)).alloc (.cells #[.int .i64 4, .int .i64 k, .int .i64 part, .int .i64 slot, .int .i64 ticks] 79)) 25 #[.int .i64 0, .slice none 0 0, .slice none 0 0, .slice none 0 0])
  simp only [World.size_alloc] at Y3 Z3
  have H := Lib.hid hx
  have V := Lib.hid hv
  clear hx hv B1 B2
  go_enter Try.func21, Try.ntmps21
  go_wp2_with fail
  refine (Can_any x A1 A2 A3 n1 n3 c1 c2 c3 4 k part slot ticks _ (H.out.below B3.out) V.out 0 HC).mono ?_
  rintro e w4 ⟨rfl, hb⟩
  have B4 := Lib.hid (B3.out.trans (hb.mono B3.out.size))
  have X4 := Lib.hid (X3.out.below hb X3.out.lt)
  have Y4 := Lib.hid (Y3.out.below hb Y3.out.lt)
  have Z4 := Lib.hid (Z3.out.below hb Z3.out.lt)
  clear hb X3 Y3 Z3 B3
  obtain ⟨x0, x1, x2, x3⟩ := blk4 X4.out
  obtain ⟨y0, y1, y2, y3, y4⟩ := blk5 Y4.out
  go_wp2_with fail
  refine (Copy_any x A1 A2 A3 n1 n3 c1 c2 c3 _ (H.out.below B4.out) h1 h3).mono ?_
  rintro e w5 ⟨g1, g2, g3, d1, d2, d3, rfl, ho, hb⟩
  have B5 := Lib.hid (B4.out.trans (hb.mono B4.out.size))
  have X5 := Lib.hid (X4.out.below hb X4.out.lt)
  have Y5 := Lib.hid (Y4.out.below hb Y4.out.lt)
  have Z5 := Lib.hid (Z4.out.below hb Z4.out.lt)
  have O5 := Lib.hid ho
  have Z4s := Lib.hid B4.out.size
  clear hb ho X4 Y4 Z4 B4 x0 x1 x2 x3 y0 y1 y2 y3 y4
  have KB := Lib.hid ((Below.refl w5.heap.size w5).alloc (Nat.le_refl _) (.cells #[.int .i64 x.slots, .slice (some ⟨g1, 0, none⟩) n1 d1, .slice (some ⟨g2, 0, none⟩) n1 d2, .slice (some ⟨g3, 0, none⟩) n3 d3] 25))
  have D6 : Hid (DW w.heap.size (w5.alloc (.cells #[.int .i64 x.slots, .slice (some ⟨g1, 0, none⟩) n1 d1, .slice (some ⟨g2, 0, none⟩) n1 d2, .slice (some ⟨g3, 0, none⟩) n3 d3] 25)) x x.slots g1 g2 g3 n1 n3 d1 d2 d3 w5.heap.size) :=
    ⟨Z5.out.alloc _, Blk.new _ _ _, own_mono (own_bel O5.out.o1 KB.out) Z4s.out, own_mono (own_bel O5.out.o2 KB.out) Z4s.out, own_mono (own_bel O5.out.o3 KB.out) Z4s.out, O5.out.ne⟩
  have X6 := Lib.hid (X5.out.below KB.out X5.out.lt)
  have Y6 := Lib.hid (Y5.out.below KB.out Y5.out.lt)
  have B6 := Lib.hid (B5.out.trans (KB.out.mono B5.out.size))
  have HY := Lib.hid (blk5 Y6.out)
  have HZ5 := Lib.hid (And.intro (Nat.lt_of_lt_of_le Z5.out.lt (Nat.le_refl w5.heap.size)) trivial)
  obtain ⟨y0, y1, y2, y3, y4⟩ := HY.out
  obtain ⟨t0, t1, t2, t3⟩ := blk4 D6.out.T
  obtain ⟨z0, z1, z2, z3⟩ := blk4 D6.out.Z
  obtain ⟨f0, f1, f2, f3⟩ := frz D6.out.Z
  clear O5 X5 Y5 Z5 B5 KB Z4s HY
  have HDO : Hid (x = doS x ⟨4, k, part, slot, ticks⟩) := by unfold Hid doS; rw [if_neg (show ¬ (4 : Int) = 0 by decide), if_neg (show ¬ (4 : Int) = 1 by decide), if_neg (show ¬ (4 : Int) = 3 by decide), if_neg (show ¬ (4 : Int) = 2 by decide)]
  have D7 := D6
  have B7 := B6
  clear D6 B6
  go_wp2_with fail
  obtain ⟨Z8, P8⟩ := D7.out.done B7.out
  unfold resW at Z8 P8
  generalize (((((w5.alloc (.cells #[.int .i64 x.slots, .slice (some ⟨g1, 0, none⟩) n1 d1, .slice (some ⟨g2, 0, none⟩) n1 d2, .slice (some ⟨g3, 0, none⟩) n3 d3] 25)).setCell ⟨w.heap.size + 1 + 1, 0, none⟩ (.int .i64 x.slots)).setCell ⟨w.heap.size + 1 + 1, 1, none⟩ (.slice (some ⟨g1, 0, none⟩) n1 d1)).setCell ⟨w.heap.size + 1 + 1, 2, none⟩ (.slice (some ⟨g2, 0, none⟩) n1 d2)).setCell ⟨w.heap.size + 1 + 1, 3, none⟩ (.slice (some ⟨g3, 0, none⟩) n3 d3)) = w8 at Z8 P8 ⊢
  clear t0 t1 t2 t3 z0 z1 z2 z3 f0 f1 f2 f3 y0 y1 y2 y3 y4
  obtain ⟨z0, z1, z2, z3⟩ := blk4 Z8.out
  exact bodyPost_ret (v := .tuple #[.agg #[.int .i64 x.slots, .slice (some ⟨g1, 0, none⟩) n1 d1, .slice (some ⟨g2, 0, none⟩) n1 d2, .slice (some ⟨g3, 0, none⟩) n3 d3], .int .i64 0]) (by simp [results, Try.results21, go_sem, z0, z1, z2, z3]) rfl ⟨g1, g2, g3, d1, d2, d3, rfl, by rw [← HDO.out]; exact P8.out.1, P8.out.2⟩
set_option maxHeartbeats 8000000 in
theorem Do_put (k : Nat) (part slot ticks : Int) (w : World) (hx : RW4 w x A1 A2 A3 n1 n1 n3 c1 c2 c3) (hv : ValidA x) (h1 : 0 < n1) (h3 : 0 < n3) (hkn : k < n3) (p : Nat) (hpn : p < n1) (HH : Hid (holdsP x k = p)) (hk1 : k ≤ 1000) (HC : Hid (canP x ⟨2, k, part, slot, ticks⟩ = 0)) :
    Calls Try.prog 21 #[.agg #[.int .i64 x.slots, .slice A1 n1 c1, .slice A2 n1 c2, .slice A3 n3 c3], .agg #[.int .i64 2, .int .i64 k, .int .i64 part, .int .i64 slot, .int .i64 ticks]] w fun e w' => ∃ g1 g2 g3 d1 d2 d3, e = .returned (.tuple #[.agg #[.int .i64 x.slots, .slice (some ⟨g1, 0, none⟩) n1 d1, .slice (some ⟨g2, 0, none⟩) n1 d2, .slice (some ⟨g3, 0, none⟩) n3 d3], .int .i64 0]) ∧ OW w.heap.size w' (doS x ⟨2, k, part, slot, ticks⟩) g1 g2 g3 n1 n3 d1 d2 d3 ∧ Below w.heap.size w w' := by
  have B1 := Lib.hid ((Below.refl w.heap.size w).alloc (Nat.le_refl _) (.cells #[.int .i64 x.slots, .slice A1 n1 c1, .slice A2 n1 c2, .slice A3 n3 c3] 25))
  have B2 := Lib.hid (B1.out.alloc B1.out.size (.cells #[.int .i64 2, .int .i64 k, .int .i64 part, .int .i64 slot, .int .i64 ticks] 79))
  have B3 := Lib.hid (B2.out.alloc B2.out.size (.cells #[.int .i64 0, .slice none 0 0, .slice none 0 0, .slice none 0 0] 25))
  have X3 := Lib.hid (((Blk.new w 25 #[.int .i64 x.slots, .slice A1 n1 c1, .slice A2 n1 c2, .slice A3 n3 c3]).alloc (.cells #[.int .i64 2, .int .i64 k, .int .i64 part, .int .i64 slot, .int .i64 ticks] 79)).alloc (.cells #[.int .i64 0, .slice none 0 0, .slice none 0 0, .slice none 0 0] 25))
  have Y3 := Lib.hid ((Blk.new (w.alloc (.cells #[.int .i64 x.slots, .slice A1 n1 c1, .slice A2 n1 c2, .slice A3 n3 c3] 25)) 79 #[.int .i64 2, .int .i64 k, .int .i64 part, .int .i64 slot, .int .i64 ticks]).alloc (.cells #[.int .i64 0, .slice none 0 0, .slice none 0 0, .slice none 0 0] 25))
  have Z3 := Lib.hid (Blk.new ((w.alloc (.cells #[.int .i64 x.slots, .slice A1 n1 c1, .slice A2 n1 c2, .slice A3 n3 c3] 25)).alloc (.cells #[.int .i64 2, .int .i64 k, .int .i64 part, .int .i64 slot, .int .i64 ticks] 79)) 25 #[.int .i64 0, .slice none 0 0, .slice none 0 0, .slice none 0 0])
  simp only [World.size_alloc] at Y3 Z3
  have H := Lib.hid hx
  have V := Lib.hid hv
  clear hx hv B1 B2
  go_enter Try.func21, Try.ntmps21
  go_wp2_with fail
  refine (Can_any x A1 A2 A3 n1 n3 c1 c2 c3 2 k part slot ticks _ (H.out.below B3.out) V.out 0 HC).mono ?_
  rintro e w4 ⟨rfl, hb⟩
  have B4 := Lib.hid (B3.out.trans (hb.mono B3.out.size))
  have X4 := Lib.hid (X3.out.below hb X3.out.lt)
  have Y4 := Lib.hid (Y3.out.below hb Y3.out.lt)
  have Z4 := Lib.hid (Z3.out.below hb Z3.out.lt)
  clear hb X3 Y3 Z3 B3
  obtain ⟨x0, x1, x2, x3⟩ := blk4 X4.out
  obtain ⟨y0, y1, y2, y3, y4⟩ := blk5 Y4.out
  go_wp2_with fail
  refine (Copy_any x A1 A2 A3 n1 n3 c1 c2 c3 _ (H.out.below B4.out) h1 h3).mono ?_
  rintro e w5 ⟨g1, g2, g3, d1, d2, d3, rfl, ho, hb⟩
  have B5 := Lib.hid (B4.out.trans (hb.mono B4.out.size))
  have X5 := Lib.hid (X4.out.below hb X4.out.lt)
  have Y5 := Lib.hid (Y4.out.below hb Y4.out.lt)
  have Z5 := Lib.hid (Z4.out.below hb Z4.out.lt)
  have O5 := Lib.hid ho
  have Z4s := Lib.hid B4.out.size
  clear hb ho X4 Y4 Z4 B4 x0 x1 x2 x3 y0 y1 y2 y3 y4
  have KB := Lib.hid ((Below.refl w5.heap.size w5).alloc (Nat.le_refl _) (.cells #[.int .i64 x.slots, .slice (some ⟨g1, 0, none⟩) n1 d1, .slice (some ⟨g2, 0, none⟩) n1 d2, .slice (some ⟨g3, 0, none⟩) n3 d3] 25))
  have D6 : Hid (DW w.heap.size (w5.alloc (.cells #[.int .i64 x.slots, .slice (some ⟨g1, 0, none⟩) n1 d1, .slice (some ⟨g2, 0, none⟩) n1 d2, .slice (some ⟨g3, 0, none⟩) n3 d3] 25)) x x.slots g1 g2 g3 n1 n3 d1 d2 d3 w5.heap.size) :=
    ⟨Z5.out.alloc _, Blk.new _ _ _, own_mono (own_bel O5.out.o1 KB.out) Z4s.out, own_mono (own_bel O5.out.o2 KB.out) Z4s.out, own_mono (own_bel O5.out.o3 KB.out) Z4s.out, O5.out.ne⟩
  have X6 := Lib.hid (X5.out.below KB.out X5.out.lt)
  have Y6 := Lib.hid (Y5.out.below KB.out Y5.out.lt)
  have B6 := Lib.hid (B5.out.trans (KB.out.mono B5.out.size))
  have HY := Lib.hid (blk5 Y6.out)
  have HZ5 := Lib.hid (And.intro (Nat.lt_of_lt_of_le Z5.out.lt (Nat.le_refl w5.heap.size)) trivial)
  obtain ⟨y0, y1, y2, y3, y4⟩ := HY.out
  obtain ⟨x0, x1, x2, x3⟩ := blk4 X6.out
  clear O5 X5 Y5 Z5 B5 KB Z4s HY
  go_wp2_with fail
  refine (Holds_any x A1 A2 A3 n1 n1 n3 c1 c2 c3 _ (H.out.below B6.out) k p (by omega) (by omega) HH).mono ?_
  rintro e w7 ⟨rfl, hb⟩
  have hgt : ∃ gt, gt = w5.heap.size := ⟨_, rfl⟩
  obtain ⟨gt, hgt⟩ := hgt
  rw [← hgt] at D6
  clear y0 y1 y2 y3 y4 x0 x1 x2 x3
  replace B6 := Lib.hid (B6.out.trans (hb.mono B6.out.size))
  replace X6 := Lib.hid (X6.out.below hb X6.out.lt)
  replace Y6 := Lib.hid (Y6.out.below hb Y6.out.lt)
  replace D6 := Lib.hid (D6.out.bel hb)
  clear hb
  simp only [← hgt]
  clear hgt
  obtain ⟨x0, x1, x2, x3⟩ := blk4 X6.out
  obtain ⟨y0, y1, y2, y3, y4⟩ := blk5 Y6.out
  obtain ⟨t0, t1, t2, t3⟩ := blk4 D6.out.T
  obtain ⟨z0, z1, z2, z3⟩ := blk4 D6.out.Z
  obtain ⟨f0, f1, f2, f3⟩ := frz D6.out.Z
  have nx := Ne.symm (blk_neA D6.out.O.o1 X6.out (by decide))
  have nx' := Ne.symm nx
  have ny := Ne.symm (blk_neA D6.out.O.o1 Y6.out (by decide))
  have ny' := Ne.symm ny
  have nt := Ne.symm (blk_neA D6.out.O.o1 D6.out.T (by decide))
  have nt' := Ne.symm nt
  have nx2 := Ne.symm (blk_neA D6.out.O.o2 X6.out (by decide))
  have nx2q := Ne.symm nx2
  have ny2 := Ne.symm (blk_neA D6.out.O.o2 Y6.out (by decide))
  have ny2q := Ne.symm ny2
  have nt2 := Ne.symm (blk_neA D6.out.O.o2 D6.out.T (by decide))
  have nt2q := Ne.symm nt2
  have n12 := own_ne D6.out.O.o1 D6.out.O.o2 (by decide)
  have n12q := Ne.symm n12
  replace B6 := Lib.hid B6.out.drew
  replace X6 := Lib.hid X6.out.drew
  replace Y6 := Lib.hid Y6.out.drew
  replace D6 := Lib.hid D6.out.drew
  have hs1 : x.place.length = n1 := H.out.l1
  have hs2 : x.seen.length = n1 := H.out.l2
  obtain ⟨q, hq⟩ := some_at (l := x.place) (k := p) (by rw [hs1]; exact hpn)
  obtain ⟨q2, hq2⟩ := some_at (l := x.seen) (k := p) (by rw [hs2]; exact hpn)
  have sc := D6.out.O.o1.cellAt p (by omega)
  rw [List.getElem?_map, hq] at sc
  have sf := D6.out.O.o1.frozenAt p
  have sc2 := D6.out.O.o2.cellAt p (by omega)
  rw [List.getElem?_map, hq2] at sc2
  have sf2 := D6.out.O.o2.frozenAt p
  clear hq hs1 hq2 hs2
  replace sc : w7.cell? ⟨g1, p, none⟩ = some (.int .i64 q) := sc
  replace sf : w7.frozen? ⟨g1, p, none⟩ = false := sf
  replace sc2 : w7.cell? ⟨g2, p, none⟩ = some (.bool q2) := sc2
  replace sf2 : w7.frozen? ⟨g2, p, none⟩ = false := sf2
  go_wp2_with fail
  go_region
  have HDO : Hid ({ x with place := x.place.set p slot, seen := x.seen.set p false } = doS x ⟨2, k, part, slot, ticks⟩) := by unfold Hid doS; rw [if_neg (show ¬ (2 : Int) = 0 by decide), if_neg (show ¬ (2 : Int) = 1 by decide), if_neg (show ¬ (2 : Int) = 3 by decide), if_pos rfl, HH.out]; rfl
  have D7 := Lib.hid ((D6.out.place p slot).seen p false)
  have B7 := Lib.hid ((B6.out.setCell (p := ⟨g1, p, none⟩) (own_ge D6.out.O.o1).1 (.int .i64 slot)).setCell (p := ⟨g2, p, none⟩) (own_ge D6.out.O.o2).1 (.bool false))
  clear sc sf sc2 sf2 nx2 nx2q ny2 ny2q nt2 nt2q n12 n12q
  rw [World.setCell_drew, World.setCell_drew] at D7 B7
  generalize hw7 : ((w7.setCell ⟨g1, p, none⟩ (.int .i64 slot)).setCell ⟨g2, p, none⟩ (.bool false)).drew = w8 at D7 B7 ⊢
  clear hw7
  clear y0 y1 y2 y3 y4 x0 x1 x2 x3 t0 t1 t2 t3 z0 z1 z2 z3 f0 f1 f2 f3 nx nx' ny ny' nt nt'
  obtain ⟨t0, t1, t2, t3⟩ := blk4 D7.out.T
  obtain ⟨z0, z1, z2, z3⟩ := blk4 D7.out.Z
  obtain ⟨f0, f1, f2, f3⟩ := frz D7.out.Z
  go_wp2_with fail
  obtain ⟨Z8, P8⟩ := D7.out.done B7.out
  unfold resW at Z8 P8
  generalize (((w8.setCell ⟨w.heap.size + 1 + 1, 0, none⟩ (.int .i64 x.slots)).setCell ⟨w.heap.size + 1 + 1, 1, none⟩ (.slice (some ⟨g1, 0, none⟩) n1 d1)).setCell ⟨w.heap.size + 1 + 1, 2, none⟩ (.slice (some ⟨g2, 0, none⟩) n1 d2)).setCell ⟨w.heap.size + 1 + 1, 3, none⟩ (.slice (some ⟨g3, 0, none⟩) n3 d3) = w9 at Z8 P8 ⊢
  clear t0 t1 t2 t3 z0 z1 z2 z3 f0 f1 f2 f3
  obtain ⟨z0, z1, z2, z3⟩ := blk4 Z8.out
  exact bodyPost_ret (v := .tuple #[.agg #[.int .i64 x.slots, .slice (some ⟨g1, 0, none⟩) n1 d1, .slice (some ⟨g2, 0, none⟩) n1 d2, .slice (some ⟨g3, 0, none⟩) n3 d3], .int .i64 0]) (by simp [results, Try.results21, go_sem, z0, z1, z2, z3]) rfl ⟨g1, g2, g3, d1, d2, d3, rfl, by rw [← HDO.out]; exact P8.out.1, P8.out.2⟩
end
end Go.Proofs.Ytbhbbnmllokglaa

namespace Go.Proofs.Ytbhbbnmllokglaa
open Go.RowKit
set_option linter.unusedVariables false
set_option maxRecDepth 100000

section
variable (x : AW) (A1 A2 A3 : Option Addr) (n1 n3 c1 c2 c3 : Nat)
set_option maxHeartbeats 8000000 in
theorem Do_no (kind arm part slot ticks : Int) (w : World) (hx : RW4 w x A1 A2 A3 n1 n1 n3 c1 c2 c3) (hv : ValidA x) (r : Int) (HC : Hid (canP x ⟨kind, arm, part, slot, ticks⟩ = r)) (hne : r ≠ 0) :
    Calls Try.prog 21 #[.agg #[.int .i64 x.slots, .slice A1 n1 c1, .slice A2 n1 c2, .slice A3 n3 c3], .agg #[.int .i64 kind, .int .i64 arm, .int .i64 part, .int .i64 slot, .int .i64 ticks]] w fun e w' => e = .returned (.tuple #[.agg #[.int .i64 0, .slice none 0 0, .slice none 0 0, .slice none 0 0], .int .i64 r]) ∧ Below w.heap.size w w' := by
  have B1 := Lib.hid ((Below.refl w.heap.size w).alloc (Nat.le_refl _) (.cells #[.int .i64 x.slots, .slice A1 n1 c1, .slice A2 n1 c2, .slice A3 n3 c3] 25))
  have B2 := Lib.hid (B1.out.alloc B1.out.size (.cells #[.int .i64 kind, .int .i64 arm, .int .i64 part, .int .i64 slot, .int .i64 ticks] 79))
  have B3 := Lib.hid (B2.out.alloc B2.out.size (.cells #[.int .i64 0, .slice none 0 0, .slice none 0 0, .slice none 0 0] 25))
  have Z3 := Lib.hid (Blk.new ((w.alloc (.cells #[.int .i64 x.slots, .slice A1 n1 c1, .slice A2 n1 c2, .slice A3 n3 c3] 25)).alloc (.cells #[.int .i64 kind, .int .i64 arm, .int .i64 part, .int .i64 slot, .int .i64 ticks] 79)) 25 #[.int .i64 0, .slice none 0 0, .slice none 0 0, .slice none 0 0])
  simp only [World.size_alloc] at Z3
  have H := Lib.hid hx
  have V := Lib.hid hv
  have hne2 : (r != 0) = true := by simpa using hne
  clear hx hv B1 B2 hne
  go_enter Try.func21, Try.ntmps21
  go_wp2_with fail
  refine (Can_any x A1 A2 A3 n1 n3 c1 c2 c3 kind arm part slot ticks _ (H.out.below B3.out) V.out r HC).mono ?_
  rintro e w4 ⟨rfl, hb⟩
  have B4 := Lib.hid (B3.out.trans (hb.mono B3.out.size))
  have Z4 := Lib.hid (Z3.out.below hb Z3.out.lt)
  clear hb Z3 B3
  obtain ⟨z0, z1, z2, z3⟩ := blk4 Z4.out
  obtain ⟨f0, f1, f2, f3⟩ := frz Z4.out
  go_wp2_with fail
  have hh : w.heap.size ≤ w.heap.size + 1 + 1 := by omega
  have Z5 := Lib.hid ((((Z4.out.set_ 0 (.int .i64 0)).set_ 1 (.slice none 0 0)).set_ 2 (.slice none 0 0)).set_ 3 (.slice none 0 0))
  have B5 := Lib.hid ((((B4.out.setCell (p := ⟨w.heap.size + 1 + 1, 0, none⟩) hh (.int .i64 0)).setCell (p := ⟨w.heap.size + 1 + 1, 1, none⟩) hh (.slice none 0 0)).setCell (p := ⟨w.heap.size + 1 + 1, 2, none⟩) hh (.slice none 0 0)).setCell (p := ⟨w.heap.size + 1 + 1, 3, none⟩) hh (.slice none 0 0))
  generalize (((w4.setCell ⟨w.heap.size + 1 + 1, 0, none⟩ (.int .i64 0)).setCell ⟨w.heap.size + 1 + 1, 1, none⟩ (.slice none 0 0)).setCell ⟨w.heap.size + 1 + 1, 2, none⟩ (.slice none 0 0)).setCell ⟨w.heap.size + 1 + 1, 3, none⟩ (.slice none 0 0) = w5 at Z5 B5 ⊢
  clear z0 z1 z2 z3 f0 f1 f2 f3
  have z0 := Z5.out.cell 0
  have z1 := Z5.out.cell 1
  have z2 := Z5.out.cell 2
  have z3 := Z5.out.cell 3
  exact bodyPost_ret (v := .tuple #[.agg #[.int .i64 0, .slice none 0 0, .slice none 0 0, .slice none 0 0], .int .i64 r]) (by simp [results, Try.results21, go_sem, z0, z1, z2, z3]) rfl ⟨rfl, B5.out⟩

/-- What a step that can be done is. -/
theorem canP_ok {x : AW} {s : St} (h : canP x s = 0) : formP s ∧ s.arm < x.spot.length ∧ s.part < x.place.length ∧ s.slot < x.slots ∧ mayP x s = 0 := by
  unfold canP at h
  by_cases hf : formP s
  · rw [if_neg (by simpa using hf)] at h
    by_cases hb : (x.spot.length : Int) ≤ s.arm ∨ (x.place.length : Int) ≤ s.part ∨ x.slots ≤ s.slot
    · rw [if_pos hb] at h; cases h
    · rw [if_neg hb] at h
      exact ⟨hf, by omega, by omega, by omega, h⟩
  · rw [if_pos hf] at h; cases h
theorem holdsP_cases (x : AW) (arm : Int) : holdsP x arm = -1 ∨ ∃ p : Nat, holdsP x arm = p ∧ p < x.place.length ∧ x.place[p]? = some (-2 - arm) := by
  unfold holdsP
  split
  · exact .inl rfl
  · rcases idxI_cases x.place (-2 - arm) with ⟨h, _⟩ | ⟨p, h1, h2, _⟩
    · exact .inl h
    · exact .inr ⟨p, h1, lt_of_at h2, h2⟩
theorem mayP_put {x : AW} {s : St} (hk : s.kind = 2) (h : mayP x s = 0) : 0 ≤ holdsP x s.arm ∧ targetP x s ≠ -1 ∧ x.spot[s.arm.toNat]? = some (targetP x s) ∧ ¬ 0 ≤ inP x s.slot := by
  unfold mayP at h
  rw [hk] at h
  simp only [show ¬ (2 : Int) = 0 by decide, show ¬ (2 : Int) = 1 by decide, show ¬ (2 : Int) = 3 by decide, if_false, if_true] at h
  by_cases h1 : ¬ 0 ≤ holdsP x s.arm ∨ ¬ (targetP x s ≠ -1 ∧ x.spot[s.arm.toNat]? = some (targetP x s))
  · rw [if_pos h1] at h; cases h
  · rw [if_neg h1] at h
    by_cases h2 : 0 ≤ inP x s.slot
    · rw [if_pos h2] at h; cases h
    · have h3 : 0 ≤ holdsP x s.arm ∧ (targetP x s ≠ -1 ∧ x.spot[s.arm.toNat]? = some (targetP x s)) := by
        by_cases a : 0 ≤ holdsP x s.arm
        · by_cases b : targetP x s ≠ -1 ∧ x.spot[s.arm.toNat]? = some (targetP x s)
          · exact ⟨a, b⟩
          · exact absurd (.inr b) h1
        · exact absurd (.inl a) h1
      exact ⟨h3.1, h3.2.1, h3.2.2, h2⟩

theorem Do_yes (kind arm part slot ticks : Int) (w : World) (hx : RW4 w x A1 A2 A3 n1 n1 n3 c1 c2 c3) (hv : ValidA x) (h1 : 0 < n1) (h3 : 0 < n3) (HC : Hid (canP x ⟨kind, arm, part, slot, ticks⟩ = 0)) :
    Calls Try.prog 21 #[.agg #[.int .i64 x.slots, .slice A1 n1 c1, .slice A2 n1 c2, .slice A3 n3 c3], .agg #[.int .i64 kind, .int .i64 arm, .int .i64 part, .int .i64 slot, .int .i64 ticks]] w fun e w' => ∃ g1 g2 g3 d1 d2 d3, e = .returned (.tuple #[.agg #[.int .i64 x.slots, .slice (some ⟨g1, 0, none⟩) n1 d1, .slice (some ⟨g2, 0, none⟩) n1 d2, .slice (some ⟨g3, 0, none⟩) n3 d3], .int .i64 0]) ∧ OW w.heap.size w' (doS x ⟨kind, arm, part, slot, ticks⟩) g1 g2 g3 n1 n3 d1 d2 d3 ∧ Below w.heap.size w w' := by
  obtain ⟨hf, ha, hp, hs, hm⟩ := canP_ok HC.out
  dsimp only at ha hp hs
  rw [hx.l3] at ha
  rw [hx.l1] at hp
  have hff := hf
  unfold formP at hff
  dsimp only at hff
  obtain ⟨k, rfl⟩ := Int.eq_ofNat_of_zero_le hff.2.2.1
  have hkn : k < n3 := by omega
  have hk : kind = 0 ∨ (kind = 1 ∧ 0 ≤ part) ∨ (kind = 3 ∧ 0 ≤ part) ∨ kind = 2 ∨ kind = 4 := by omega
  rcases hk with rfl | ⟨rfl, hp0⟩ | ⟨rfl, hp0⟩ | rfl | rfl
  · exact Do_go x A1 A2 A3 n1 n3 c1 c2 c3 k part slot ticks w hx hv h1 h3 hkn HC
  · obtain ⟨p, rfl⟩ := Int.eq_ofNat_of_zero_le hp0
    exact Do_take x A1 A2 A3 n1 n3 c1 c2 c3 k p slot ticks w hx hv h1 h3 hkn (by omega) HC
  · obtain ⟨p, rfl⟩ := Int.eq_ofNat_of_zero_le hp0
    exact Do_look x A1 A2 A3 n1 n3 c1 c2 c3 k p slot ticks w hx hv h1 h3 hkn (by omega) HC
  · have hh := (mayP_put rfl hm).1
    dsimp only at hh
    rcases holdsP_cases x k with h0 | ⟨p, h0, h4, _⟩
    · omega
    · have hb := hx.b3
      exact Do_put x A1 A2 A3 n1 n3 c1 c2 c3 k part slot ticks w hx hv h1 h3 hkn p (by rw [hx.l1] at h4; exact h4) h0 (by omega) HC
  · exact Do_wait x A1 A2 A3 n1 n3 c1 c2 c3 k part slot ticks w hx hv h1 h3 hkn HC
end

theorem OW.rw4 {B : Nat} {w : World} {x : AW} {g1 g2 g3 n1 n3 c1 c2 c3 : Nat} (h : OW B w x g1 g2 g3 n1 n3 c1 c2 c3) (b1 : n1 ≤ 100) (b3 : n3 ≤ 100) : RW4 w x (some ⟨g1, 0, none⟩) (some ⟨g2, 0, none⟩) (some ⟨g3, 0, none⟩) n1 n1 n3 c1 c2 c3 := by
  have e1 : x.place.length = n1 := by simpa using h.o1.1
  have e2 : x.seen.length = n1 := by simpa using h.o2.1
  have e3 : x.spot.length = n3 := by simpa using h.o3.1
  refine ⟨⟨RI.own h.o1, ?_, RI.own h.o3⟩, e1, e2, e3, b1, b1, b3, own_cap h.o1, own_cap h.o2, own_cap h.o3⟩
  exact RK.own (enc := fun b : Bool => [Value.bool b]) (fun _ => rfl) (by rw [flat_bool]; exact h.o2) e2
end Go.Proofs.Ytbhbbnmllokglaa

namespace Go.Proofs.Ytbhbbnmllokglaa
open Go.RowKit
set_option linter.unusedVariables false

/-- No two are equal, but where they are -1. -/
def Dis (l : List Int) : Prop := ∀ (i j : Nat) (p : Int), i < j → l[i]? = some p → l[j]? = some p → p = -1
theorem dis_iff (l : List Int) : Dis l ↔ ∀ (i : Nat) (p : Int), l[i]? = some p → p ≠ -1 → p ∉ l.take i := by
  constructor
  · intro h i p hi hp hm
    obtain ⟨j, hj⟩ := List.mem_iff_getElem?.1 hm
    rw [List.getElem?_take] at hj
    split at hj
    · exact hp (h j i p (by assumption) hj hi)
    · cases hj
  · intro h i j p hij hi hj
    by_cases hp : p = -1
    · exact hp
    · refine absurd ?_ (h j p hj hp)
      exact List.mem_iff_getElem?.2 ⟨i, by rw [List.getElem?_take, if_pos hij]; exact hi⟩
theorem Dis.set {l : List Int} (h : Dis l) (k : Nat) (v : Int) (hv : v ∉ l) : Dis (l.set k v) := by
  intro i j p hij hi hj
  rw [List.getElem?_set] at hi hj
  by_cases h1 : k = i
  · rw [if_pos h1] at hi
    rw [if_neg (by omega)] at hj
    split at hi
    · injection hi with hi
      subst hi
      exact absurd (List.mem_of_getElem? hj) hv
    · cases hi
  · rw [if_neg h1] at hi
    by_cases h2 : k = j
    · rw [if_pos h2] at hj
      split at hj
      · injection hj with hj
        subst hj
        exact absurd (List.mem_of_getElem? hi) hv
      · cases hj
    · rw [if_neg h2] at hj
      exact h i j p hij hi hj
theorem at_set {α : Type} {l : List α} {k i : Nat} {v p : α} (h : (l.set k v)[i]? = some p) : p = v ∨ l[i]? = some p := by
  rw [List.getElem?_set] at h
  split at h
  · split at h
    · injection h with h; exact .inl h.symm
    · cases h
  · exact .inr h
/-- Valid, in the words of Dis. -/
theorem validA_iff (x : AW) : ValidA x ↔ 0 ≤ x.slots ∧ x.slots ≤ 8 ∧ x.place.length ≤ 6 ∧ x.spot.length ≤ 4 ∧ x.seen.length = x.place.length ∧
    (∀ p ∈ x.place, p < x.slots ∧ -1 - (x.spot.length : Int) ≤ p) ∧ Dis x.place ∧ (∀ s ∈ x.spot, -1 ≤ s ∧ (s < x.slots ∨ 8 ≤ s) ∧ s < 8 + (x.place.length : Int)) ∧ Dis x.spot := by
  constructor
  · intro h
    refine ⟨h.s0, h.s8, h.p6, h.a4, h.sp, fun p hp => ?_, (dis_iff _).2 fun i p hi => (h.place i p hi).2.2, fun s hs => ?_, (dis_iff _).2 fun i p hi => (h.spot i p hi).2.2.2⟩
    · obtain ⟨i, hi⟩ := List.mem_iff_getElem?.1 hp
      exact ⟨(h.place i p hi).1, (h.place i p hi).2.1⟩
    · obtain ⟨i, hi⟩ := List.mem_iff_getElem?.1 hs
      exact ⟨(h.spot i s hi).1, (h.spot i s hi).2.1, (h.spot i s hi).2.2.1⟩
  · rintro ⟨h1, h2, h3, h4, h5, h6, h7, h8, h9⟩
    exact ⟨h1, h2, h3, h4, h5, fun i p hi => ⟨(h6 p (List.mem_of_getElem? hi)).1, (h6 p (List.mem_of_getElem? hi)).2, (dis_iff _).1 h7 i p hi⟩,
      fun i p hi => ⟨(h8 p (List.mem_of_getElem? hi)).1, (h8 p (List.mem_of_getElem? hi)).2.1, (h8 p (List.mem_of_getElem? hi)).2.2, (dis_iff _).1 h9 i p hi⟩⟩
theorem doS_len (x : AW) (s : St) : (doS x s).place.length = x.place.length ∧ (doS x s).seen.length = x.seen.length ∧ (doS x s).spot.length = x.spot.length ∧ (doS x s).slots = x.slots := by
  unfold doS
  split
  · simp
  · split
    · simp
    · split
      · simp
      · split <;> simp
theorem mem_set' {l : List Int} {k : Nat} {v p : Int} (h : p ∈ l.set k v) : p = v ∨ p ∈ l := by
  obtain ⟨i, hi⟩ := List.mem_iff_getElem?.1 h
  rcases at_set hi with h | h
  · exact .inl h
  · exact .inr (List.mem_of_getElem? h)

/-- What may asks, kind by kind. -/
theorem mayP_go {x : AW} {s : St} (hk : s.kind = 0) (h : mayP x s = 0) : ¬ (0 ≤ s.part ∧ 0 ≤ holdsP x s.arm) ∧ targetP x s ≠ -1 ∧ targetP x s ∉ x.spot := by
  unfold mayP at h
  rw [hk] at h
  simp only [if_true] at h
  by_cases h1 : 0 ≤ s.part ∧ 0 ≤ holdsP x s.arm
  · rw [if_pos h1] at h; cases h
  · rw [if_neg h1] at h
    by_cases h2 : targetP x s = -1
    · rw [if_pos h2] at h; cases h
    · rw [if_neg h2] at h
      by_cases h3 : targetP x s ≠ -1 ∧ x.spot[s.arm.toNat]? = some (targetP x s)
      · rw [if_pos h3] at h; cases h
      · rw [if_neg h3] at h
        by_cases h4 : targetP x s ∈ x.spot
        · rw [if_pos h4] at h; cases h
        · exact ⟨h1, h2, h4⟩
theorem mayP_take {x : AW} {s : St} (hk : s.kind = 1) (h : mayP x s = 0) : ¬ 0 ≤ holdsP x s.arm ∧ targetP x s ≠ -1 ∧ x.spot[s.arm.toNat]? = some (targetP x s) ∧ x.seen[s.part.toNat]? = some true := by
  unfold mayP at h
  rw [hk] at h
  simp only [show ¬ (1 : Int) = 0 by decide, if_false, if_true] at h
  by_cases h1 : 0 ≤ holdsP x s.arm
  · rw [if_pos h1] at h; cases h
  · rw [if_neg h1] at h
    by_cases h3 : targetP x s ≠ -1 ∧ x.spot[s.arm.toNat]? = some (targetP x s)
    · rw [if_neg (by simpa using h3)] at h
      by_cases h4 : x.seen[s.part.toNat]? = some true
      · exact ⟨h1, h3.1, h3.2, h4⟩
      · rw [if_neg h4] at h; cases h
    · rw [if_pos h3] at h; cases h
theorem mayP_look {x : AW} {s : St} (hk : s.kind = 3) (h : mayP x s = 0) : ¬ 0 ≤ holdsP x s.arm ∧ targetP x s ≠ -1 ∧ x.spot[s.arm.toNat]? = some (targetP x s) ∧ x.seen[s.part.toNat]? ≠ some true := by
  unfold mayP at h
  rw [hk] at h
  simp only [show ¬ (3 : Int) = 0 by decide, show ¬ (3 : Int) = 1 by decide, if_false, if_true] at h
  by_cases h1 : 0 ≤ holdsP x s.arm
  · rw [if_pos h1] at h; cases h
  · rw [if_neg h1] at h
    by_cases h3 : targetP x s ≠ -1 ∧ x.spot[s.arm.toNat]? = some (targetP x s)
    · rw [if_neg (by simpa using h3)] at h
      by_cases h4 : x.seen[s.part.toNat]? = some true
      · rw [if_pos h4] at h; cases h
      · exact ⟨h1, h3.1, h3.2, h4⟩
    · rw [if_pos h3] at h; cases h
theorem whereP_range {x : AW} (hv : ValidA x) (p : Int) : whereP x p = -1 ∨ (0 ≤ whereP x p ∧ (whereP x p < x.slots ∨ 8 ≤ whereP x p) ∧ whereP x p < 8 + (x.place.length : Int)) := by
  obtain ⟨h1, h2, h3, h4, h5, h6, h7, h8, h9⟩ := (validA_iff x).1 hv
  unfold whereP
  split
  · exact .inl rfl
  · split
    · exact .inl rfl
    · rename_i q hq
      have := h6 q (List.mem_of_getElem? hq)
      have hl := lt_of_at hq
      split
      · exact .inl rfl
      · split <;> exact .inr (by omega)
theorem targetP_range {x : AW} (hv : ValidA x) {s : St} (hs : s.slot < x.slots) (h1 : -1 ≤ s.slot) : targetP x s = -1 ∨ (0 ≤ targetP x s ∧ (targetP x s < x.slots ∨ 8 ≤ targetP x s) ∧ targetP x s < 8 + (x.place.length : Int)) := by
  unfold targetP
  split
  · exact whereP_range hv _
  · have := hv.s8
    rcases Int.lt_or_le s.slot 0 with h | h
    · exact .inl (by omega)
    · exact .inr (by omega)
theorem not_holds {x : AW} {arm : Int} (h0 : 0 ≤ arm) (h1 : arm < x.spot.length) (h : ¬ 0 ≤ holdsP x arm) : -2 - arm ∉ x.place := by
  unfold holdsP at h
  rw [if_neg (by omega)] at h
  rcases idxI_cases x.place (-2 - arm) with ⟨_, h2⟩ | ⟨k, h2, _⟩
  · exact h2
  · omega
theorem not_in {x : AW} {slot : Int} (h0 : 0 ≤ slot) (h : ¬ 0 ≤ inP x slot) : slot ∉ x.place := by
  unfold inP at h
  rw [if_neg (by omega)] at h
  rcases idxI_cases x.place slot with ⟨_, h2⟩ | ⟨k, h2, _⟩
  · exact h2
  · omega

theorem valid_do {x : AW} {s : St} (hv : ValidA x) (hc : canP x s = 0) : ValidA (doS x s) := by
  obtain ⟨hf, ha, hp, hs, hm⟩ := canP_ok hc
  unfold formP at hf
  obtain ⟨h1, h2, h3, h4, h5, h6, h7, h8, h9⟩ := (validA_iff x).1 hv
  obtain ⟨l1, l2, l3, l4⟩ := doS_len x s
  refine (validA_iff _).2 ⟨by omega, by omega, by omega, by omega, by omega, ?_⟩
  have hk : s.kind = 0 ∨ (s.kind = 1 ∧ 0 ≤ s.part) ∨ (s.kind = 3 ∧ 0 ≤ s.part) ∨ (s.kind = 2 ∧ 0 ≤ s.slot) ∨ s.kind = 4 := by omega
  rw [l1, l3, l4]
  rcases hk with hk | ⟨hk, hp0⟩ | ⟨hk, hp0⟩ | ⟨hk, hs0⟩ | hk
  · obtain ⟨g1, g2, g3⟩ := mayP_go hk hm
    have hr := targetP_range hv hs hf.2.1
    unfold doS
    rw [if_pos hk]
    refine ⟨h6, h7, fun q hq => ?_, h9.set _ _ g3⟩
    rcases mem_set' hq with rfl | hq
    · omega
    · exact h8 q hq
  · obtain ⟨g1, g2, g3, g4⟩ := mayP_take hk hm
    unfold doS
    rw [if_neg (by omega), if_pos hk]
    refine ⟨fun q hq => ?_, h7.set _ _ (not_holds (by omega) ha g1), h8, h9⟩
    rcases mem_set' hq with rfl | hq
    · omega
    · exact h6 q hq
  · unfold doS
    rw [if_neg (by omega), if_neg (by omega), if_pos hk]
    exact ⟨h6, h7, h8, h9⟩
  · obtain ⟨g1, g2, g3, g4⟩ := mayP_put hk hm
    unfold doS
    rw [if_neg (by omega), if_neg (by omega), if_neg (by omega), if_pos hk]
    refine ⟨fun q hq => ?_, h7.set _ _ (not_in hs0 g4), h8, h9⟩
    rcases mem_set' hq with rfl | hq
    · omega
    · exact h6 q hq
  · unfold doS
    rw [if_neg (by omega), if_neg (by omega), if_neg (by omega), if_neg (by omega)]
    exact ⟨h6, h7, h8, h9⟩
end Go.Proofs.Ytbhbbnmllokglaa

namespace Go.Proofs.Ytbhbbnmllokglaa
open Go.RowKit
open Go.Maps (Keyed)
set_option linter.unusedVariables false
set_option maxRecDepth 100000

/-- A map of the call's own that reads as f, false where there is no entry. -/
def BM (w : World) (b n : Nat) (f : Int → Bool) : Prop :=
  ∃ D : DataW Unit, w.ownsMap Try.prog 3 (plainElem (H := Unit) Try.prog 4) b n D ∧ ∀ x : Int, (Lit.int .i64 x).wf = true → D.atKey (.int .i64 x) (.lit (.bool false)) = .lit (.bool (f x))
theorem kI : Keyed Try.prog 3 := Go.Maps.int_keyed Try.underlying3
theorem keyI {x : Int} (h : (Lit.int .i64 x).wf = true) : keyOf Try.prog 3 (.int .i64 x) = some (.int .i64 x) := by
  simp [keyOf, mapKey, Try.underlying3, h]
theorem BM.made (w : World) : BM (w.alloc (.map #[] 0)) w.heap.size 0 (fun _ => false) :=
  ⟨_, World.ownsMap_made _ _ _ _, fun x _ => rfl⟩
theorem BM.lt {w : World} {b n : Nat} {f : Int → Bool} (h : BM w b n f) : b < w.heap.size := by
  obtain ⟨D, ⟨es, cl, hb, _⟩, _⟩ := h
  exact (Array.getElem?_eq_some_iff.1 hb).1
theorem BM.keep {w w' : World} {b n : Nat} {f : Int → Bool} (h : BM w b n f) (hb : w'.heap[b]? = w.heap[b]?) : BM w' b n f := by
  obtain ⟨D, ⟨es, cl, h1, h2⟩, h3⟩ := h
  exact ⟨D, ⟨es, cl, hb.trans h1, h2⟩, h3⟩
theorem BM.ne_blk {w : World} {b n g : Nat} {f : Int → Bool} {t : TypeId} {cs : Array Value} (h : BM w b n f) (hg : Blk w g t cs) : b ≠ g := by
  obtain ⟨D, ⟨es, cl, h1, h2⟩, h3⟩ := h
  rintro rfl
  unfold Blk at hg
  rw [hg] at h1
  cases h1
theorem BM.ne_own {w : World} {b n : Nat} {f : Int → Bool} (h : BM w b n f) {base size m : Nat} {e : TypeId} {v : Value} {xs : List Value} (ho : w.ownsRow base e size v m xs) : v.ownBlock ≠ some b := by
  obtain ⟨D, ⟨es, cl, h1, h2⟩, h3⟩ := h
  rcases ho.2 with ⟨rfl, _⟩ | ⟨g, cap, cur, rfl, _, hh, _⟩
  · simp [Value.ownBlock]
  · intro he
    have : g = b := by simpa [Value.ownBlock] using he
    subst this
    rw [hh] at h1
    cases h1
theorem wpList_lookup_bm (w : World) {ops : Array Oper} {rest : List Oper} {o : Oper} {a : Act} {Q : Exit → Act → World → Prop}
    (hg : o.guard = none) (m x : Operand) (t : TypeId) (hop : o.op = Op.lookup t m x false) (ht : Try.prog.underlying t = some (.map 3 4)) (b n : Nat) (f : Int → Bool)
    (hm : a.eval m = .map (some b)) (hown : BM w b n f) (key : Int) (hx : a.eval x = .int .i64 key) (hkey : (Lit.int .i64 key).wf = true)
    (hK : wpList Try.prog ops Q rest (a.put o.dst (.bool (f key))) w) : wpList Try.prog ops Q (o :: rest) a w := by
  refine wpList_plain hg fun K' hK' => ?_
  obtain ⟨D, h1, h2⟩ := hown
  have hz : (zeroValue 4).run Try.prog w = .ok (.bool false) w := by kernel_rfl
  obtain ⟨v, ps, hrun, hv⟩ := h1.lookup kI ht hz (plainElem_bool (H := Unit) Try.underlying4 false) (keyI hkey)
  rw [h2 key hkey] at hv
  have hv2 : v = .bool (f key) := by
    unfold plainElem at hv
    rw [Try.underlying4] at hv
    cases v <;> simp at hv
    rw [hv.1]
  subst hv2
  unfold Oper.wp
  simp [execOp, hop, hm, hx, hrun, Result.andThen]
  exact hK' _ _ hK
theorem wpList_update_bm (w : World) {ops : Array Oper} {rest : List Oper} {o : Oper} {a : Act} {Q : Exit → Act → World → Prop}
    (hg : o.guard = none) (m x v : Operand) (t : TypeId) (hop : o.op = Op.mapUpdate t m x v) (ht : Try.prog.underlying t = some (.map 3 4)) (b n : Nat) (f : Int → Bool)
    (hm : a.eval m = .map (some b)) (hown : BM w b n f) (hn : n < 1000) (key : Int) (hx : a.eval x = .int .i64 key) (hkey : (Lit.int .i64 key).wf = true) (c : Bool) (hv : a.eval v = .bool c)
    (hK : ∀ w', BM w' b (n + 1) (fun y => if y = key then c else f y) → w.grownBy w' (some b) → wpList Try.prog ops Q rest (a.put o.dst undef) w') : wpList Try.prog ops Q (o :: rest) a w := by
  obtain ⟨D, h1, h2⟩ := hown
  refine wpList_mapUpdate_own w hg m x v t hop 3 4 kI ht _ b n D hm h1 (by unfold maxLen; omega) (.int .i64 key) (.bool c) (.int .i64 key) hx hv (keyI hkey) (.lit (.bool c)) [] (plainElem_bool Try.underlying4 c) fun w' h3 h4 => ?_
  refine hK w' ⟨_, h3, fun y hy => ?_⟩ h4
  have hD : Go.Maps.IsMap D := by
    obtain ⟨es, cl, _, _, _, rfl⟩ := h1
    exact ⟨_, rfl⟩
  show _ = DataW.lit (.bool (if y = key then c else f y))
  by_cases e : y = key
  · subst e
    rw [if_pos rfl]
    exact Go.Maps.atKey_put_same hD (show WideAt.IsKeyLit (.int .i64 y) from trivial) _ _
  · rw [if_neg e, Go.Maps.atKey_put_other (by simpa using e)]
    exact h2 y hy

/-! Where World stands -/
abbrev zeroW : Array Value := #[.int .i64 0, .slice none 0 0, .slice none 0 0, .slice none 0 0]
/-- Slots, parts and arms: ns, np, na; ps, ss, as: what has been made so far; the spots' row lies behind hs. -/
structure PW (h : Nat) (w0 w : World) (na np ns : Nat) (A P S : Option Addr) (ca cp cs : Nat) (ps : List Int) (ss : List Bool) (qs : List Int) (hs : Nat) (A1 A2 A3 : Option Addr) (c1 c2 c3 : Nat) : Prop where
  X : Blk w h 35 (worksV na np ns A P S ca cp cs)
  Z : Blk w (h + 1) 25 zeroW
  st : Strm h w (h + 1 + 1)
  T : Blk w (h + 1 + 1 + 1) 25 #[.int .i64 ns, .slice A1 ps.length c1, .slice A2 ss.length c2, .slice A3 qs.length c3]
  op : w.ownsRow h 3 1 (.slice A1 ps.length c1) ps.length (ps.map (Value.int .i64))
  os : w.ownsRow h 4 1 (.slice A2 ss.length c2) ss.length (ss.map Value.bool)
  oq : w.ownsRow hs 3 1 (.slice A3 qs.length c3) qs.length (qs.map (Value.int .i64))
  hh : h ≤ hs
  B : Below h w0 w
section
variable {h : Nat} {w0 w w' : World} {na np ns : Nat} {A P S : Option Addr} {ca cp cs : Nat} {ps : List Int} {ss : List Bool} {qs : List Int} {hs : Nat} {A1 A2 A3 : Option Addr} {c1 c2 c3 : Nat}
theorem PW.le (p : PW h w0 w na np ns A P S ca cp cs ps ss qs hs A1 A2 A3 c1 c2 c3) : h ≤ w.heap.size := by have := p.X.lt; omega
theorem PW.keep (p : PW h w0 w na np ns A P S ca cp cs ps ss qs hs A1 A2 A3 c1 c2 c3) (hb : Below w.heap.size w w') : PW h w0 w' na np ns A P S ca cp cs ps ss qs hs A1 A2 A3 c1 c2 c3 :=
  ⟨p.X.below hb p.X.lt, p.Z.below hb p.Z.lt, p.st.keep (hb.mono p.le) (hb.block _ p.st.lt), p.T.below hb p.T.lt, own_bel p.op hb, own_bel p.os hb, own_bel p.oq hb, p.hh, p.B.trans (hb.mono p.le)⟩
theorem PW.next (p : PW h w0 w na np ns A P S ca cp cs ps ss qs hs A1 A2 A3 c1 c2 c3) (h1 : Strm h w' (h + 1 + 1)) (hg : w.grownBy w' (some (h + 1 + 1))) : PW h w0 w' na np ns A P S ca cp cs ps ss qs hs A1 A2 A3 c1 c2 c3 := by
  obtain ⟨u, hu⟩ := p.st.blk
  exact ⟨p.X.grown hg (by simp; omega), p.Z.grown hg (by simp), h1, p.T.grown hg (by simp), p.op.kept hg (.inr (own_blk_ne p.op hu (by decide))), p.os.kept hg (.inr (own_blk_ne p.os hu (by decide))), p.oq.kept hg (.inr (own_blk_ne p.oq hu (by decide))), p.hh, p.B.grown hg p.le (fun k hk => by cases hk; omega)⟩
theorem BM.next {b m : Nat} {f : Int → Bool} (hm : BM w b m f) (p : PW h w0 w na np ns A P S ca cp cs ps ss qs hs A1 A2 A3 c1 c2 c3) (hg : w.grownBy w' (some (h + 1 + 1))) : BM w' b m f := by
  obtain ⟨u, hu⟩ := p.st.blk
  exact hm.keep (hg.block b hm.lt (fun e => hm.ne_blk hu (by injection e)))
theorem BM.below {b m : Nat} {f : Int → Bool} (hm : BM w b m f) (hb : Below w.heap.size w w') : BM w' b m f := hm.keep (hb.block b hm.lt)
theorem PW.map (p : PW h w0 w na np ns A P S ca cp cs ps ss qs hs A1 A2 A3 c1 c2 c3) {b m : Nat} {f : Int → Bool} (hm : BM w b m f) (hb0 : h ≤ b) (hg : w.grownBy w' (some b)) : PW h w0 w' na np ns A P S ca cp cs ps ss qs hs A1 A2 A3 c1 c2 c3 := by
  obtain ⟨u, hu⟩ := p.st.blk
  have e1 := hm.ne_blk p.X
  have e2 := hm.ne_blk p.Z
  have e3 := hm.ne_blk hu
  have e4 := hm.ne_blk p.T
  exact ⟨p.X.grown hg (by simpa using Ne.symm e1), p.Z.grown hg (by simpa using Ne.symm e2), p.st.grown hg (fun k hk => by cases hk; exact hb0) (by simpa using Ne.symm e3), p.T.grown hg (by simpa using Ne.symm e4),
    p.op.kept hg (.inr (hm.ne_own p.op)), p.os.kept hg (.inr (hm.ne_own p.os)), p.oq.kept hg (.inr (hm.ne_own p.oq)), p.hh, p.B.grown hg p.le (fun k hk => by cases hk; exact hb0)⟩

theorem PW.place (hs0 : PW h w0 w na np ns A P S ca cp cs ps ss qs hs A1 A2 A3 c1 c2 c3) {A1' : Option Addr} {c1' : Nat} {u : Int} (ho : w'.ownsRow h 3 1 (.slice A1' (ps.length + 1) c1') (ps.length + 1) (ps.map (Value.int .i64) ++ [(Value.int .i64) u])) (hg : w.grownBy w' (Value.slice A1 ps.length c1).ownBlock) (hne : (Value.slice A3 qs.length c3).ownBlock = none ∨ (Value.slice A3 qs.length c3).ownBlock ≠ (Value.slice A1 ps.length c1).ownBlock) :
    PW h w0 (w'.setCell ⟨h + 1 + 1 + 1, 1, none⟩ (.slice A1' (ps.length + 1) c1')) na np ns A P S ca cp cs (ps ++ [u]) ss qs hs A1' A2 A3 c1' c2 c3 := by
  have hX := hs0.X.grown hg (own_blk_ne' hs0.X hs0.op (by decide))
  have hZ := hs0.Z.grown hg (own_blk_ne' hs0.Z hs0.op (by decide))
  have hT := hs0.T.grown hg (own_blk_ne' hs0.T hs0.op (by decide))
  obtain ⟨u0, hu⟩ := hs0.st.blk
  have hS := hs0.st.grown hg (fun k hk => (hs0.op.lt k hk).1) (own_blk_ne' hu hs0.op (by decide))
  have hB := hs0.B.grown hg hs0.le (fun k hk => (hs0.op.lt k hk).1)
  have o_os := hs0.os.kept hg (own_own_ne hs0.os hs0.op (by decide))
  have o_oq := hs0.oq.kept hg (hne)
  have hl : (ps ++ [u]).length = ps.length + 1 := by simp
  have ho2 : w'.ownsRow h 3 1 (.slice A1' (ps ++ [u]).length c1') (ps ++ [u]).length ((ps ++ [u]).map (Value.int .i64)) := by rw [hl, List.map_append]; exact ho
  have hT2 := hT.seti 1 (.slice A1' (ps.length + 1) c1') rfl
  rw [← hl] at hT2 ⊢
  exact ⟨hX.far (p := ⟨h + 1 + 1 + 1, 1, none⟩) (by show h ≠ h + 1 + 1 + 1; omega) _, hZ.far (p := ⟨h + 1 + 1 + 1, 1, none⟩) (by show h + 1 ≠ h + 1 + 1 + 1; omega) _, hS.setCell (p := ⟨h + 1 + 1 + 1, 1, none⟩) (by show h + 1 + 1 ≠ h + 1 + 1 + 1; omega) (by show h ≤ h + 1 + 1 + 1; omega) _, hT2,
    own_set_far ho2 hT (by decide) 1 _, own_set_far o_os hT (by decide) 1 _, own_set_far o_oq hT (by decide) 1 _, hs0.hh, hB.setCell (p := ⟨h + 1 + 1 + 1, 1, none⟩) (by show h ≤ h + 1 + 1 + 1; omega) _⟩
theorem BM.place {b m : Nat} {f : Int → Bool} (hm : BM w b m f) (hs0 : PW h w0 w na np ns A P S ca cp cs ps ss qs hs A1 A2 A3 c1 c2 c3) (hg : w.grownBy w' (Value.slice A1 ps.length c1).ownBlock) (v : Value) : BM (w'.setCell ⟨h + 1 + 1 + 1, 1, none⟩ v) b m f := by
  have h1 := hm.keep (hg.block b hm.lt (fun e => hm.ne_own hs0.op e.symm))
  refine h1.keep (Below.heap_setCell w' ⟨h + 1 + 1 + 1, 1, none⟩ v b ?_)
  exact hm.ne_blk hs0.T

theorem PW.seen (hs0 : PW h w0 w na np ns A P S ca cp cs ps ss qs hs A1 A2 A3 c1 c2 c3) {A2' : Option Addr} {c2' : Nat} {u : Bool} (ho : w'.ownsRow h 4 1 (.slice A2' (ss.length + 1) c2') (ss.length + 1) (ss.map Value.bool ++ [Value.bool u])) (hg : w.grownBy w' (Value.slice A2 ss.length c2).ownBlock) :
    PW h w0 (w'.setCell ⟨h + 1 + 1 + 1, 2, none⟩ (.slice A2' (ss.length + 1) c2')) na np ns A P S ca cp cs ps (ss ++ [u]) qs hs A1 A2' A3 c1 c2' c3 := by
  have hX := hs0.X.grown hg (own_blk_ne' hs0.X hs0.os (by decide))
  have hZ := hs0.Z.grown hg (own_blk_ne' hs0.Z hs0.os (by decide))
  have hT := hs0.T.grown hg (own_blk_ne' hs0.T hs0.os (by decide))
  obtain ⟨u0, hu⟩ := hs0.st.blk
  have hS := hs0.st.grown hg (fun k hk => (hs0.os.lt k hk).1) (own_blk_ne' hu hs0.os (by decide))
  have hB := hs0.B.grown hg hs0.le (fun k hk => (hs0.os.lt k hk).1)
  have o_op := hs0.op.kept hg (own_own_ne hs0.op hs0.os (by decide))
  have o_oq := hs0.oq.kept hg (own_own_ne hs0.oq hs0.os (by decide))
  have hl : (ss ++ [u]).length = ss.length + 1 := by simp
  have ho2 : w'.ownsRow h 4 1 (.slice A2' (ss ++ [u]).length c2') (ss ++ [u]).length ((ss ++ [u]).map Value.bool) := by rw [hl, List.map_append]; exact ho
  have hT2 := hT.seti 2 (.slice A2' (ss.length + 1) c2') rfl
  rw [← hl] at hT2 ⊢
  exact ⟨hX.far (p := ⟨h + 1 + 1 + 1, 2, none⟩) (by show h ≠ h + 1 + 1 + 1; omega) _, hZ.far (p := ⟨h + 1 + 1 + 1, 2, none⟩) (by show h + 1 ≠ h + 1 + 1 + 1; omega) _, hS.setCell (p := ⟨h + 1 + 1 + 1, 2, none⟩) (by show h + 1 + 1 ≠ h + 1 + 1 + 1; omega) (by show h ≤ h + 1 + 1 + 1; omega) _, hT2,
    own_set_far o_op hT (by decide) 2 _, own_set_far ho2 hT (by decide) 2 _, own_set_far o_oq hT (by decide) 2 _, hs0.hh, hB.setCell (p := ⟨h + 1 + 1 + 1, 2, none⟩) (by show h ≤ h + 1 + 1 + 1; omega) _⟩
theorem BM.seen {b m : Nat} {f : Int → Bool} (hm : BM w b m f) (hs0 : PW h w0 w na np ns A P S ca cp cs ps ss qs hs A1 A2 A3 c1 c2 c3) (hg : w.grownBy w' (Value.slice A2 ss.length c2).ownBlock) (v : Value) : BM (w'.setCell ⟨h + 1 + 1 + 1, 2, none⟩ v) b m f := by
  have h1 := hm.keep (hg.block b hm.lt (fun e => hm.ne_own hs0.os e.symm))
  refine h1.keep (Below.heap_setCell w' ⟨h + 1 + 1 + 1, 2, none⟩ v b ?_)
  exact hm.ne_blk hs0.T

theorem PW.spot (hs0 : PW h w0 w na np ns A P S ca cp cs ps ss qs hs A1 A2 A3 c1 c2 c3) {A3' : Option Addr} {c3' : Nat} {u : Int} (ho : w'.ownsRow hs 3 1 (.slice A3' (qs.length + 1) c3') (qs.length + 1) (qs.map (Value.int .i64) ++ [(Value.int .i64) u])) (hg : w.grownBy w' (Value.slice A3 qs.length c3).ownBlock) (hne : (Value.slice A1 ps.length c1).ownBlock = none ∨ (Value.slice A1 ps.length c1).ownBlock ≠ (Value.slice A3 qs.length c3).ownBlock) :
    PW h w0 (w'.setCell ⟨h + 1 + 1 + 1, 3, none⟩ (.slice A3' (qs.length + 1) c3')) na np ns A P S ca cp cs ps ss (qs ++ [u]) hs A1 A2 A3' c1 c2 c3' := by
  have hX := hs0.X.grown hg (own_blk_ne' hs0.X hs0.oq (by decide))
  have hZ := hs0.Z.grown hg (own_blk_ne' hs0.Z hs0.oq (by decide))
  have hT := hs0.T.grown hg (own_blk_ne' hs0.T hs0.oq (by decide))
  obtain ⟨u0, hu⟩ := hs0.st.blk
  have hS := hs0.st.grown hg (fun k hk => Nat.le_trans hs0.hh (hs0.oq.lt k hk).1) (own_blk_ne' hu hs0.oq (by decide))
  have hB := hs0.B.grown hg hs0.le (fun k hk => Nat.le_trans hs0.hh (hs0.oq.lt k hk).1)
  have o_op := hs0.op.kept hg (hne)
  have o_os := hs0.os.kept hg (own_own_ne hs0.os hs0.oq (by decide))
  have hl : (qs ++ [u]).length = qs.length + 1 := by simp
  have ho2 : w'.ownsRow hs 3 1 (.slice A3' (qs ++ [u]).length c3') (qs ++ [u]).length ((qs ++ [u]).map (Value.int .i64)) := by rw [hl, List.map_append]; exact ho
  have hT2 := hT.seti 3 (.slice A3' (qs.length + 1) c3') rfl
  rw [← hl] at hT2 ⊢
  exact ⟨hX.far (p := ⟨h + 1 + 1 + 1, 3, none⟩) (by show h ≠ h + 1 + 1 + 1; omega) _, hZ.far (p := ⟨h + 1 + 1 + 1, 3, none⟩) (by show h + 1 ≠ h + 1 + 1 + 1; omega) _, hS.setCell (p := ⟨h + 1 + 1 + 1, 3, none⟩) (by show h + 1 + 1 ≠ h + 1 + 1 + 1; omega) (by show h ≤ h + 1 + 1 + 1; omega) _, hT2,
    own_set_far o_op hT (by decide) 3 _, own_set_far o_os hT (by decide) 3 _, own_set_far ho2 hT (by decide) 3 _, hs0.hh, hB.setCell (p := ⟨h + 1 + 1 + 1, 3, none⟩) (by show h ≤ h + 1 + 1 + 1; omega) _⟩
theorem BM.spot {b m : Nat} {f : Int → Bool} (hm : BM w b m f) (hs0 : PW h w0 w na np ns A P S ca cp cs ps ss qs hs A1 A2 A3 c1 c2 c3) (hg : w.grownBy w' (Value.slice A3 qs.length c3).ownBlock) (v : Value) : BM (w'.setCell ⟨h + 1 + 1 + 1, 3, none⟩ v) b m f := by
  have h1 := hm.keep (hg.block b hm.lt (fun e => hm.ne_own hs0.oq e.symm))
  refine h1.keep (Below.heap_setCell w' ⟨h + 1 + 1 + 1, 3, none⟩ v b ?_)
  exact hm.ne_blk hs0.T
end
end Go.Proofs.Ytbhbbnmllokglaa
