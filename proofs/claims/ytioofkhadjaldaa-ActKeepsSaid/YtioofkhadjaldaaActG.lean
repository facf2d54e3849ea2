/- The walks of slices.Clone at []int and []bool and of act.Copy. -/
import Derived.Test.YtioofkhadjaldaaActF
import Derived.Deep.RegionHeld3
namespace Go.Proofs.Ytioofkhadjaldaa
open Go.RowKit
set_option linter.unusedVariables false
set_option maxRecDepth 100000

theorem info_int : (Try.prog.info? 3).map (fun i => (i.zero, i.size, i.bytes)) = some (some (.int .i64 0), 1, 8) := by kernel_rfl
theorem info_bool : (Try.prog.info? 4).map (fun i => (i.zero, i.size, i.bytes)) = some (some (.bool false), 1, 1) := by kernel_rfl
set_option maxHeartbeats 1000000 in
theorem clone_int (A : Option Addr) (n c : Nat) (vs : List Value) (w : World) (hb : n ≤ 1000) (hX : Src w (.slice A n c) 1 n vs) (h1 : ∀ u ∈ vs, u.oneCell' = true) :
    Calls Try.prog 36 #[.slice A n c] w fun e w' => ∃ v, e = .returned v ∧ w'.ownsRow w.heap.size 3 1 v n vs ∧ Below w.heap.size w w' := by
  have HX := Lib.hid hX
  have H1 := Lib.hid h1
  have hnl := fun (w : World) (a : Option Addr) (n c : Nat) => Lib.run_eql_slice_nil (P := Try.prog) w 22 3 a n c 0 0 Try.underlying22
  obtain ⟨i0, hi, hz0, hz1, hz2⟩ := info_parts info_int
  clear hX h1
  rcases A with _ | a
  · have h0 : n = 0 ∧ vs = [] := by
      obtain ⟨hl, h⟩ := HX.out
      rcases h with ⟨h, rfl⟩ | ⟨b, o, c', h, _⟩
      · exact ⟨rfl, List.eq_nil_of_length_eq_zero (by simpa using hl)⟩
      · cases h
    obtain ⟨rfl, rfl⟩ := h0
    go_enter Try.func36, Try.ntmps36
    go_wp2_with fail
    go_ret
    exact ⟨_, rfl, World.ownsRow_nil _ _ _ _, Below.refl _ _⟩
  · have hA : ∃ b o, a = ⟨b, o, none⟩ ∧ ∀ (j : Nat) (u : Value), vs[j]? = some u → w.cell? ⟨b, o + j, none⟩ = some u := by
      obtain ⟨_, h⟩ := HX.out
      rcases h with ⟨h, _⟩ | ⟨b, o, c', h, hc⟩
      · cases h
      · cases h; exact ⟨b, o, rfl, hc⟩
    obtain ⟨b, o, rfl, hc⟩ := hA
    have B0 := Lib.hid ((Below.refl w.heap.size w).alloc (Nat.le_refl _) (.cells #[] 3))
    have X0 : Hid (Src (w.alloc (.cells #[] 3)) (.slice (some ⟨b, o, none⟩) n c) 1 n vs) :=
      ⟨HX.out.1, .inr ⟨b, o, c, rfl, fun j u hu => by
        have h := hc j u hu
        exact (B0.out.cell (p := ⟨b, o + j, none⟩) (World.block_lt_of_cell? w _ h)).trans h⟩⟩
    have O0 : Hid ((w.alloc (.cells #[] 3)).ownsRow w.heap.size 3 1 (.slice (some ⟨w.heap.size, 0, none⟩) 0 0) 0 []) := World.ownsRow_lit w #[] 0 (Nat.le_refl _) (by simp [maxLen]) (by simp)
    have S0 := Lib.hid B0.out.size
    clear hc
    go_enter Try.func36, Try.ntmps36
    go_wp2_with (at_builtin; refine wpList_append_src _ rfl (.tmp 5) (.tmp 6) 22 rfl w.heap.size 3 i0 _ 1 8 Try.underlying22 hi hz0 hz1 hz2 rfl (by decide) _ 0 [] rfl O0.out n vs _ rfl X0.out H1.out (by unfold maxLen; omega) (by omega) S0.out ?_; intro v7 w7 hown7 hg7; have B7 := Lib.hid (below_append B0.out O0.out hg7 S0.out); have U7 := Lib.hid hown7; clear hown7 hg7)
    go_ret
    exact ⟨v7, rfl, by simpa using U7.out, B7.out⟩

set_option maxHeartbeats 1000000 in
theorem clone_bool (A : Option Addr) (n c : Nat) (vs : List Value) (w : World) (hb : n ≤ 1000) (hX : Src w (.slice A n c) 1 n vs) (h1 : ∀ u ∈ vs, u.oneCell' = true) :
    Calls Try.prog 37 #[.slice A n c] w fun e w' => ∃ v, e = .returned v ∧ w'.ownsRow w.heap.size 4 1 v n vs ∧ Below w.heap.size w w' := by
  have HX := Lib.hid hX
  have H1 := Lib.hid h1
  have hnl := fun (w : World) (a : Option Addr) (n c : Nat) => Lib.run_eql_slice_nil (P := Try.prog) w 23 4 a n c 0 0 Try.underlying23
  obtain ⟨i0, hi, hz0, hz1, hz2⟩ := info_parts info_bool
  clear hX h1
  rcases A with _ | a
  · have h0 : n = 0 ∧ vs = [] := by
      obtain ⟨hl, h⟩ := HX.out
      rcases h with ⟨h, rfl⟩ | ⟨b, o, c', h, _⟩
      · exact ⟨rfl, List.eq_nil_of_length_eq_zero (by simpa using hl)⟩
      · cases h
    obtain ⟨rfl, rfl⟩ := h0
    go_enter Try.func37, Try.ntmps37
    go_wp2_with fail
    go_ret
    exact ⟨_, rfl, World.ownsRow_nil _ _ _ _, Below.refl _ _⟩
  · have hA : ∃ b o, a = ⟨b, o, none⟩ ∧ ∀ (j : Nat) (u : Value), vs[j]? = some u → w.cell? ⟨b, o + j, none⟩ = some u := by
      obtain ⟨_, h⟩ := HX.out
      rcases h with ⟨h, _⟩ | ⟨b, o, c', h, hc⟩
      · cases h
      · cases h; exact ⟨b, o, rfl, hc⟩
    obtain ⟨b, o, rfl, hc⟩ := hA
    have B0 := Lib.hid ((Below.refl w.heap.size w).alloc (Nat.le_refl _) (.cells #[] 4))
    have X0 : Hid (Src (w.alloc (.cells #[] 4)) (.slice (some ⟨b, o, none⟩) n c) 1 n vs) :=
      ⟨HX.out.1, .inr ⟨b, o, c, rfl, fun j u hu => by
        have h := hc j u hu
        exact (B0.out.cell (p := ⟨b, o + j, none⟩) (World.block_lt_of_cell? w _ h)).trans h⟩⟩
    have O0 : Hid ((w.alloc (.cells #[] 4)).ownsRow w.heap.size 4 1 (.slice (some ⟨w.heap.size, 0, none⟩) 0 0) 0 []) := World.ownsRow_lit w #[] 0 (Nat.le_refl _) (by simp [maxLen]) (by simp)
    have S0 := Lib.hid B0.out.size
    clear hc
    go_enter Try.func37, Try.ntmps37
    go_wp2_with (at_builtin; refine wpList_append_src _ rfl (.tmp 5) (.tmp 6) 23 rfl w.heap.size 4 i0 _ 1 1 Try.underlying23 hi hz0 hz1 hz2 rfl (by decide) _ 0 [] rfl O0.out n vs _ rfl X0.out H1.out (by unfold maxLen; omega) (by omega) S0.out ?_; intro v7 w7 hown7 hg7; have B7 := Lib.hid (below_append B0.out O0.out hg7 S0.out); have U7 := Lib.hid hown7; clear hown7 hg7)
    go_ret
    exact ⟨v7, rfl, by simpa using U7.out, B7.out⟩


/-- A world whose three slices lie in blocks of their own, from B on. -/
structure OW (B : Nat) (w : World) (x : AW) (g1 g2 g3 n1 n3 c1 c2 c3 : Nat) : Prop where
  o1 : w.ownsRow B 3 1 (.slice (some ⟨g1, 0, none⟩) n1 c1) n1 (x.place.map (Value.int .i64))
  o2 : w.ownsRow B 4 1 (.slice (some ⟨g2, 0, none⟩) n1 c2) n1 (x.seen.map Value.bool)
  o3 : w.ownsRow B 3 1 (.slice (some ⟨g3, 0, none⟩) n3 c3) n3 (x.spot.map (Value.int .i64))
  ne : g1 ≠ g3
theorem own_mono {w : World} {B B' : Nat} {e : TypeId} {size n : Nat} {v : Value} {xs : List Value} (h : w.ownsRow B' e size v n xs) (hb : B ≤ B') : w.ownsRow B e size v n xs := by
  refine ⟨h.1, ?_⟩
  rcases h.2 with hn | ⟨g, cap, cur, rfl, hbb, rest⟩
  · exact .inl hn
  · exact .inr ⟨g, cap, cur, rfl, Nat.le_trans hb hbb, rest⟩
theorem own_far {w : World} {B : Nat} {e : TypeId} {size n g c : Nat} {xs : List Value} (h : w.ownsRow B e size (.slice (some ⟨g, 0, none⟩) n c) n xs) (p : Addr) (hp : g ≠ p.block) (u : Value) : (w.setCell p u).ownsRow B e size (.slice (some ⟨g, 0, none⟩) n c) n xs := by
  refine ⟨h.1, ?_⟩
  rcases h.2 with ⟨hn, _⟩ | ⟨g', cap, cur, hv, hbb, hg, rest⟩
  · cases hn
  · cases hv
    exact .inr ⟨g, c, cur, rfl, hbb, (Below.heap_setCell w p u g hp).trans hg, rest⟩

theorem own_far4 {w : World} {B : Nat} {e : TypeId} {size n g c b : Nat} {xs : List Value} (h : w.ownsRow B e size (.slice (some ⟨g, 0, none⟩) n c) n xs) (hb : g ≠ b) (u0 u1 u2 u3 : Value) :
    ((((w.setCell ⟨b, 0, none⟩ u0).setCell ⟨b, 1, none⟩ u1).setCell ⟨b, 2, none⟩ u2).setCell ⟨b, 3, none⟩ u3).ownsRow B e size (.slice (some ⟨g, 0, none⟩) n c) n xs :=
  own_far (own_far (own_far (own_far h ⟨b, 0, none⟩ hb u0) ⟨b, 1, none⟩ hb u1) ⟨b, 2, none⟩ hb u2) ⟨b, 3, none⟩ hb u3

theorem flat_bool (bs : List Bool) : flat (fun b : Bool => [Value.bool b]) bs = bs.map Value.bool := by
  induction bs with
  | nil => rfl
  | cons b bs ih => rw [List.map_cons, ← ih]; rfl
theorem RI.src_ {w : World} {A : Option Addr} {n c : Nat} {xs : List Int} (h : RI w A xs) (hn : xs.length = n) (hp : 0 < n) : Src w (.slice A n c) 1 n (xs.map (Value.int .i64)) := by
  obtain ⟨b, o, rfl, _, hc⟩ := h (by omega)
  refine ⟨by simp [hn], .inr ⟨b, o, c, rfl, fun j u hu => ?_⟩⟩
  rw [List.getElem?_map] at hu
  obtain ⟨x, hx, rfl⟩ := Option.map_eq_some_iff.1 hu
  exact hc j x hx
theorem RBo.src_ {w : World} {A : Option Addr} {n c : Nat} {bs : List Bool} (h : RBo w A bs) (hn : bs.length = n) (hp : 0 < n) : Src w (.slice A n c) 1 n (bs.map Value.bool) := by
  obtain ⟨b, o, rfl, _, hc⟩ := h (by omega)
  refine ⟨by simp [hn], .inr ⟨b, o, c, rfl, fun j u hu => ?_⟩⟩
  rw [List.getElem?_map] at hu
  obtain ⟨x, hx, rfl⟩ := Option.map_eq_some_iff.1 hu
  have := hc j x 0 _ hx rfl
  simpa using this
theorem ints_one (xs : List Int) : ∀ u ∈ xs.map (Value.int .i64), u.oneCell' = true := by intro u hu; obtain ⟨x, _, rfl⟩ := List.mem_map.1 hu; rfl
theorem bools_one (xs : List Bool) : ∀ u ∈ xs.map Value.bool, u.oneCell' = true := by intro u hu; obtain ⟨x, _, rfl⟩ := List.mem_map.1 hu; rfl

set_option maxHeartbeats 8000000 in
theorem Copy_any (x : AW) (A1 A2 A3 : Option Addr) (n1 n3 c1 c2 c3 : Nat) (w : World) (hx : RW4 w x A1 A2 A3 n1 n1 n3 c1 c2 c3) (h1 : 0 < n1) (h3 : 0 < n3) :
    Calls Try.prog 12 #[.agg #[.int .i64 x.slots, .slice A1 n1 c1, .slice A2 n1 c2, .slice A3 n3 c3]] w fun e w' => ∃ g1 g2 g3 d1 d2 d3, e = .returned (.agg #[.int .i64 x.slots, .slice (some ⟨g1, 0, none⟩) n1 d1, .slice (some ⟨g2, 0, none⟩) n1 d2, .slice (some ⟨g3, 0, none⟩) n3 d3]) ∧ OW w.heap.size w' x g1 g2 g3 n1 n3 d1 d2 d3 ∧ Below w.heap.size w w' := by
  have B1 := Lib.hid ((Below.refl w.heap.size w).alloc (Nat.le_refl _) (.cells #[.int .i64 x.slots, .slice A1 n1 c1, .slice A2 n1 c2, .slice A3 n3 c3] 25))
  have X1 := Lib.hid (Blk.new w 25 #[.int .i64 x.slots, .slice A1 n1 c1, .slice A2 n1 c2, .slice A3 n3 c3])
  have H1 := Lib.hid (hx.below B1.out)
  have b1 := hx.b1
  have b3 := hx.b3
  clear hx
  go_enter Try.func12, Try.ntmps12
  go_wp2_with fail
  have B2 := Lib.hid (B1.out.alloc B1.out.size (.cells #[.int .i64 0, .slice none 0 0, .slice none 0 0, .slice none 0 0] 25)).drew
  have X2 : Hid (Blk ((w.alloc (.cells #[.int .i64 x.slots, .slice A1 n1 c1, .slice A2 n1 c2, .slice A3 n3 c3] 25)).alloc (.cells #[.int .i64 0, .slice none 0 0, .slice none 0 0, .slice none 0 0] 25)).drew w.heap.size 25 #[.int .i64 x.slots, .slice A1 n1 c1, .slice A2 n1 c2, .slice A3 n3 c3]) := X1.out.alloc _
  have Y2 : Hid (Blk ((w.alloc (.cells #[.int .i64 x.slots, .slice A1 n1 c1, .slice A2 n1 c2, .slice A3 n3 c3] 25)).alloc (.cells #[.int .i64 0, .slice none 0 0, .slice none 0 0, .slice none 0 0] 25)).drew (w.alloc (.cells #[.int .i64 x.slots, .slice A1 n1 c1, .slice A2 n1 c2, .slice A3 n3 c3] 25)).heap.size 25 #[.int .i64 0, .slice none 0 0, .slice none 0 0, .slice none 0 0]) := Blk.new _ _ _
  simp only [World.size_alloc] at Y2
  have H2 := Lib.hid (H1.out.below (((Below.refl _ _).alloc (Nat.le_refl _) (.cells #[.int .i64 0, .slice none 0 0, .slice none 0 0, .slice none 0 0] 25)).drew))
  generalize hw2 : ((w.alloc (.cells #[.int .i64 x.slots, .slice A1 n1 c1, .slice A2 n1 c2, .slice A3 n3 c3] 25)).alloc (.cells #[.int .i64 0, .slice none 0 0, .slice none 0 0, .slice none 0 0] 25)) = w2 at B2 X2 Y2 H2 ⊢
  clear hw2 B1 X1 H1
  have p1 := Lib.hid (H2.out.ra.place.src_ (c := c1) H2.out.l1 h1)
  have p2 := Lib.hid (RBo.src_ (c := c2) H2.out.ra.seen H2.out.l2 h1)
  have p3 := Lib.hid (H2.out.ra.spot.src_ (c := c3) H2.out.l3 h3)
  have x0 := X2.out.cell 0
  have x1 := X2.out.cell 1
  have x2 := X2.out.cell 2
  have x3 := X2.out.cell 3
  have yy := Y2
  have r0 := yy.out.cell 0
  have r1 := yy.out.cell 1
  have r2 := yy.out.cell 2
  have r3 := yy.out.cell 3
  have f0 := yy.out.frozen 0
  have f1 := yy.out.frozen 1
  have f2 := yy.out.frozen 2
  have f3 := yy.out.frozen 3
  have hq : w.heap.size + 1 < w2.drew.heap.size := Y2.out.lt
  have HQ := Lib.hid hq
  have L := Lib.hid H2.out.l1
  clear hq X2 Y2 H2
  go_region_held3 (fun W => W.cell? ⟨w.heap.size, 0, none⟩ = some (.int .i64 x.slots) ∧ W.cell? ⟨w.heap.size, 1, none⟩ = some (.slice A1 n1 c1) ∧ W.cell? ⟨w.heap.size, 2, none⟩ = some (.slice A2 n1 c2) ∧ W.cell? ⟨w.heap.size, 3, none⟩ = some (.slice A3 n3 c3))
    (first | exact ⟨x0, x1, x2, x3⟩ | go_keep)
    (first
      | (go_at_call 36; refine (clone_int _ _ _ _ _ (by omega) (by first | exact p1.out | exact p3.out) (ints_one _)).mono ?_; rintro e w' ⟨v, rfl, ho, hb⟩; obtain ⟨g, d, hv, hg, _⟩ := ho.form (by omega); subst hv; replace x0 := keep_cell hb x0; replace x1 := keep_cell hb x1; replace x2 := keep_cell hb x2; replace x3 := keep_cell hb x3; replace yy := Lib.hid (yy.out.below hb yy.out.lt); replace p1 := Lib.hid (p1.out.bel hb); replace p2 := Lib.hid (p2.out.bel hb); replace p3 := Lib.hid (p3.out.bel hb); replace r0 := yy.out.cell 0; replace r1 := yy.out.cell 1; replace r2 := yy.out.cell 2; replace r3 := yy.out.cell 3; replace f0 := yy.out.frozen 0; replace f1 := yy.out.frozen 1; replace f2 := yy.out.frozen 2; replace f3 := yy.out.frozen 3; have HO := Lib.hid ho; have HB := Lib.hid hb; clear ho hb)
      | (go_at_call 37; refine (clone_bool _ _ _ _ _ (by omega) p2.out (bools_one _)).mono ?_; rintro e w' ⟨v, rfl, ho, hb⟩; obtain ⟨g, d, hv, hg, _⟩ := ho.form (by omega); subst hv; replace x0 := keep_cell hb x0; replace x1 := keep_cell hb x1; replace x2 := keep_cell hb x2; replace x3 := keep_cell hb x3; replace yy := Lib.hid (yy.out.below hb yy.out.lt); replace p1 := Lib.hid (p1.out.bel hb); replace p2 := Lib.hid (p2.out.bel hb); replace p3 := Lib.hid (p3.out.bel hb); replace r0 := yy.out.cell 0; replace r1 := yy.out.cell 1; replace r2 := yy.out.cell 2; replace r3 := yy.out.cell 3; replace f0 := yy.out.frozen 0; replace f1 := yy.out.frozen 1; replace f2 := yy.out.frozen 2; replace f3 := yy.out.frozen 3; have HO := Lib.hid ho; have HB := Lib.hid hb; clear ho hb))
  rename_i wa ga da hga rta HOa HBa wb gb db hgb rtb HOb HBb rtc hH
  clear hH x0 x1 x2 x3 p1 p2 p3
  go_wp2_with fail
  have Z : Hid (Blk ((((w'.setCell ⟨w.heap.size + 1, 0, none⟩ (.int .i64 x.slots)).setCell ⟨w.heap.size + 1, 1, none⟩ (.slice (some ⟨ga, 0, none⟩) n1 da)).setCell ⟨w.heap.size + 1, 2, none⟩ (.slice (some ⟨gb, 0, none⟩) n1 db)).setCell ⟨w.heap.size + 1, 3, none⟩ (.slice (some ⟨g, 0, none⟩) n3 d)) (w.heap.size + 1) 25 #[.int .i64 x.slots, .slice (some ⟨ga, 0, none⟩) n1 da, .slice (some ⟨gb, 0, none⟩) n1 db, .slice (some ⟨g, 0, none⟩) n3 d]) :=
    (((yy.out.set_ 0 _).set_ 1 _).set_ 2 _).set_ 3 _
  have hq := HQ.out
  have e1 : w.heap.size + 1 < ga := Nat.lt_of_lt_of_le hq hga
  have e2 : w.heap.size + 1 < gb := by omega
  have e3 : w.heap.size + 1 < g := by omega
  have O1 := own_mono (own_bel (own_bel HOa.out HBb.out) HB.out) (show w.heap.size ≤ _ by omega)
  have O2 := own_mono (own_bel HOb.out HB.out) (show w.heap.size ≤ _ by omega)
  have O3 := own_mono HO.out (show w.heap.size ≤ _ by omega)
  have hne : ga ≠ g := by omega
  have P := Lib.hid (And.intro (own_far4 O1 (show ga ≠ w.heap.size + 1 by omega) (.int .i64 x.slots) (.slice (some ⟨ga, 0, none⟩) n1 da) (.slice (some ⟨gb, 0, none⟩) n1 db) (.slice (some ⟨g, 0, none⟩) n3 d)) (And.intro (own_far4 O2 (show gb ≠ w.heap.size + 1 by omega) (.int .i64 x.slots) (.slice (some ⟨ga, 0, none⟩) n1 da) (.slice (some ⟨gb, 0, none⟩) n1 db) (.slice (some ⟨g, 0, none⟩) n3 d)) (own_far4 O3 (show g ≠ w.heap.size + 1 by omega) (.int .i64 x.slots) (.slice (some ⟨ga, 0, none⟩) n1 da) (.slice (some ⟨gb, 0, none⟩) n1 db) (.slice (some ⟨g, 0, none⟩) n3 d))))
  have B0 : Below w.heap.size w w' := B2.out.trans (((HBa.out.trans (HBb.out.mono (by omega))).trans (HB.out.mono (by omega))).mono (by omega))
  have BB := Lib.hid ((((B0.setCell (p := ⟨w.heap.size + 1, 0, none⟩) (by simp) (.int .i64 x.slots)).setCell (p := ⟨w.heap.size + 1, 1, none⟩) (by simp) (.slice (some ⟨ga, 0, none⟩) n1 da)).setCell (p := ⟨w.heap.size + 1, 2, none⟩) (by simp) (.slice (some ⟨gb, 0, none⟩) n1 db)).setCell (p := ⟨w.heap.size + 1, 3, none⟩) (by simp) (.slice (some ⟨g, 0, none⟩) n3 d))
  have RR : ∀ W : World, Blk W (w.heap.size + 1) 25 #[.int .i64 x.slots, .slice (some ⟨ga, 0, none⟩) n1 da, .slice (some ⟨gb, 0, none⟩) n1 db, .slice (some ⟨g, 0, none⟩) n3 d] → W.cell? ⟨w.heap.size + 1, 0, none⟩ = some (.int .i64 x.slots) ∧ W.cell? ⟨w.heap.size + 1, 1, none⟩ = some (.slice (some ⟨ga, 0, none⟩) n1 da) ∧ W.cell? ⟨w.heap.size + 1, 2, none⟩ = some (.slice (some ⟨gb, 0, none⟩) n1 db) ∧ W.cell? ⟨w.heap.size + 1, 3, none⟩ = some (.slice (some ⟨g, 0, none⟩) n3 d) := fun W h => ⟨h.cell 0, h.cell 1, h.cell 2, h.cell 3⟩
  generalize hW : (((w'.setCell ⟨w.heap.size + 1, 0, none⟩ (.int .i64 x.slots)).setCell ⟨w.heap.size + 1, 1, none⟩ (.slice (some ⟨ga, 0, none⟩) n1 da)).setCell ⟨w.heap.size + 1, 2, none⟩ (.slice (some ⟨gb, 0, none⟩) n1 db)).setCell ⟨w.heap.size + 1, 3, none⟩ (.slice (some ⟨g, 0, none⟩) n3 d) = W at Z P BB ⊢
  obtain ⟨z0, z1, z2, z3⟩ := RR W Z.out
  clear RR r0 r1 r2 r3 f0 f1 f2 f3
  exact bodyPost_ret (v := .agg #[.int .i64 x.slots, .slice (some ⟨ga, 0, none⟩) n1 da, .slice (some ⟨gb, 0, none⟩) n1 db, .slice (some ⟨g, 0, none⟩) n3 d]) (by simp [results, Try.results12, go_sem, z0, z1, z2, z3]) rfl ⟨ga, gb, g, da, db, d, rfl, ⟨P.out.1, P.out.2.1, P.out.2.2, hne⟩, BB.out⟩
end Go.Proofs.Ytioofkhadjaldaa
