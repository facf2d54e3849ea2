/- The walks of slices.Grow, slices.Concat at facts, fact.Join, Minus, Apply. -/
import Derived.Test.YtioofkhadjaldaaFactD
import Derived.Lib.AppendZeros
namespace Go.Proofs.Ytioofkhadjaldaa
open Go.RowKit
set_option linter.unusedVariables false
set_option maxRecDepth 100000

set_option maxHeartbeats 4000000 in
theorem growF_any (n : Nat) (w : World) (hn : n ≤ 100000) :
    Calls Try.prog 55 #[.slice none 0 0, .int .i64 n] w fun e w' => ∃ v, e = .returned v ∧ w'.ownsRow w.heap.size 66 3 v 0 [] ∧ Below w.heap.size w w' := by
  have g1 : IntKind.i64.wrap ((n : Int)) = n := IntWalk.i64_in _ (by omega)
  rcases Nat.eq_zero_or_pos n with h0 | h0
  · subst h0
    go_enter Try.func55, Try.ntmps55
    go_wp2_with fail
    go_ret
    exact ⟨_, rfl, World.ownsRow_nil _ _ _ _, Below.refl _ _⟩
  · have h0I : (0 : Int) < n := by omega
    obtain ⟨j0, ji, jz0, jz1, jz2⟩ := info_parts info_fact
    have hr := fun ty => Lib.run_append_nil_zeros (P := Try.prog) w 58 3 ty 66 j0 _ .i64 .i64 Try.underlying58 Try.underlying3 ji jz0 n h0 (by rw [jz1]; decide) (by omega) (by rw [jz2]; omega)
    have H := Lib.hid hr
    have hge := grownCap_ge w n 0 66
    have hle := grownCap_le_maxLen w n 0 66 (by unfold maxLen; omega)
    clear hr
    go_enter Try.func55, Try.ntmps55
    go_wp2_with (at_builtin; refine Lib.wpList_append_run _ rfl _ _ _ _ rfl _ _ rfl rfl _ _ (H.out _) ?_)
    go_ret
    refine ⟨_, rfl, ?_, ((Below.refl _ _).alloc (Nat.le_refl _) _).drew⟩
    have h := World.ownsRow_made (e := 66) (base := w.heap.size) (size := 3) w (Builtin.zeroCells #[.int .i64 0, .int .i64 0, .int .i64 0] n ++ Builtin.zeroCells #[.int .i64 0, .int .i64 0, .int .i64 0] (grownCap w n 0 66 - n)) (grownCap w n 0 66) (Nat.le_refl _) hle (by rw [Array.size_append, size_zeroCells, size_zeroCells]; simp only [List.size_toArray, List.length_cons, List.length_nil]; omega)
    exact h

/-- A list of two. -/
theorem two_at {α : Type} {x y z : α} {k : Nat} (h : [x, y][k]? = some z) : k = 0 ∧ x = z ∨ k = 1 ∧ y = z := by
  match k, h with
  | 0, h => exact .inl ⟨rfl, by simpa using h⟩
  | 1, h => exact .inr ⟨rfl, by simpa using h⟩

set_option maxHeartbeats 4000000 in
theorem concatF_any (g : Nat) (A B : Option Addr) (n m c d : Nat) (fs gs : List Fct) (w : World) (hB : Blk w g 58 #[.slice A n c, .slice B m d]) (hR : RF w A fs) (hS : RF w B gs) (hn : fs.length = n) (hm : gs.length = m) (hA0 : WfS A n c) (hB0 : WfS B m d) (hn1 : n ≤ 1000) (hm1 : m ≤ 1000) :
    Calls Try.prog 29 #[.slice (some ⟨g, 0, none⟩) 2 2] w fun e w' => ∃ A' c', e = .returned (.slice A' (n + m) c') ∧ RF w' A' (fs ++ gs) ∧ WfS A' (n + m) c' ∧ Below w.heap.size w w' := by
  have XB := Lib.hid hB
  have R0 := Lib.hid hR
  have S0 := Lib.hid hS
  have SR := Lib.hid (hR.src Fct.len hn hA0)
  have SS := Lib.hid (hS.src Fct.len hm hB0)
  have Hn := Lib.hid hn
  have Hm := Lib.hid hm
  have d0 := hB.cell 0
  have d1 := hB.cell 1
  have NF := Lib.hid (flat_cell1 (enc := Fct.cells) Fct.one fs)
  have NG := Lib.hid (flat_cell1 (enc := Fct.cells) Fct.one gs)
  obtain ⟨j0, ji, jz0, jz1, jz2⟩ := info_parts info_fact
  clear hB hR hS hn hm hA0 hB0
  go_enter Try.func29, Try.ntmps29
  go_wp2_with fail
  go_loopw [3, 11] (fun s i wr => ∃ (k t : Nat), s = .int .i64 t ∧ i = .int .i64 k ∧ ((k = 0 ∧ t = 0) ∨ (k = 1 ∧ t = n) ∨ (k = 2 ∧ t = n + m)) ∧ w = wr) (fun _ i _ => 2 - (intOf i).toNat)
  case atStart => exact ⟨0, 0, rfl, rfl, .inl ⟨rfl, rfl⟩, rfl⟩
  case round =>
    obtain ⟨k, t, rfl, rfl, hkt, rfl⟩ := hrel
    rcases hkt with ⟨rfl, rfl⟩ | ⟨rfl, rfl⟩ | ⟨rfl, rfl⟩
    · go_wp2_with fail
      go_roundw
      case rel => exact ⟨1, n, by go_num, rfl, .inr (.inl ⟨rfl, rfl⟩), by trivial⟩
      case measure => simp [intOf]
    · go_wp2_with fail
      go_roundw
      case rel => exact ⟨2, t + m, by go_num, rfl, .inr (.inr ⟨rfl, rfl⟩), by trivial⟩
      case measure => simp [intOf]
    · go_wp2_with fail
      refine (growF_any (n + m) _ (by omega)).mono ?_
      rintro e w1 ⟨v1, rfl, ho, hb⟩
      have O1 := Lib.hid ho
      have B1 := Lib.hid hb
      have X1 := Lib.hid (XB.out.below hb XB.out.lt)
      clear ho hb d0 d1
      go_wp2_with fail
      go_loopw [6, 27] (fun vs i wr => ∃ (k : Nat) (v : Value) (t : Nat) (hs : List Fct), v = vs ∧ i = .int .i64 k ∧ ((k = 0 ∧ t = 0 ∧ hs = []) ∨ (k = 1 ∧ t = n ∧ hs = fs) ∨ (k = 2 ∧ t = n + m ∧ hs = fs ++ gs)) ∧ Hid (wr.ownsRow w.heap.size 66 3 v t (flat Fct.cells hs)) ∧ Hid (Below w.heap.size w wr)) (fun _ i _ => 2 - (intOf i).toNat)
      case atStart => exact ⟨0, _, 0, [], rfl, rfl, .inl ⟨rfl, rfl, rfl⟩, O1, B1⟩
      case round =>
        obtain ⟨k, v, t, hs, rfl, rfl, hkt, Ol, Bl⟩ := hrel
        have Xl := Lib.hid (XB.out.below Bl.out XB.out.lt)
        have Zl := Lib.hid Bl.out.size
        have d0 := Xl.out.cell 0
        have d1 := Xl.out.cell 1
        rcases hkt with ⟨rfl, rfl, rfl⟩ | ⟨rfl, rfl, rfl⟩ | ⟨rfl, rfl, rfl⟩
        · have SR1 := Lib.hid (SR.out.bel Bl.out)
          go_wp2_with (at_builtin; refine wpList_append_src _ rfl (.tmp 31) (.tmp 32) 58 rfl w.heap.size 66 j0 _ 3 24 Try.underlying58 ji jz0 jz1 jz2 rfl (by decide) _ 0 (flat Fct.cells []) rfl Ol.out n _ _ rfl SR1.out NF.out (by unfold maxLen; omega) (by omega) Zl.out ?_; intro v7 w7 hown7 hg7; have B7 := Lib.hid (below_append Bl.out Ol.out hg7 Zl.out); have O7 := Lib.hid hown7; clear hown7 hg7)
          go_roundw
          case rel => exact ⟨1, _, n, fs, rfl, by go_num, .inr (.inl ⟨rfl, rfl, rfl⟩), by rw [Hid]; have := O7.out; simpa [flat] using this, B7⟩
          case measure => simp [intOf]
        · have SR1 := Lib.hid (SS.out.bel Bl.out)
          go_wp2_with (at_builtin; refine wpList_append_src _ rfl (.tmp 31) (.tmp 32) 58 rfl w.heap.size 66 j0 _ 3 24 Try.underlying58 ji jz0 jz1 jz2 rfl (by decide) _ t (flat Fct.cells hs) rfl Ol.out m _ _ rfl SR1.out NG.out (by unfold maxLen; omega) (by omega) Zl.out ?_; intro v7 w7 hown7 hg7; have B7 := Lib.hid (below_append Bl.out Ol.out hg7 Zl.out); have O7 := Lib.hid hown7; clear hown7 hg7)
          go_roundw
          case rel => exact ⟨2, _, t + m, hs ++ gs, rfl, by go_num, .inr (.inr ⟨rfl, rfl, rfl⟩), by rw [Hid, flat_append]; exact O7.out, B7⟩
          case measure => simp [intOf]
        · obtain ⟨A', c', rfl⟩ := own_slice Ol.out
          go_wp2_with fail
          go_ret
          exact ⟨A', c', rfl, RK.own Fct.len Ol.out (by rw [List.length_append, Hn.out, Hm.out]), WfS.own Ol.out, Bl.out⟩

theorem SetF.congr {rs : List Fct} {p q : Fct → Prop} (h : SetF rs p) (e : ∀ f, p f ↔ q f) : SetF rs q := ⟨h.1, fun f => (h.2 f).trans (e f)⟩

set_option maxHeartbeats 4000000 in
theorem Join_any (A B : Option Addr) (n m c d : Nat) (fs gs : List Fct) (w : World) (hR : RF w A fs) (hS : RF w B gs) (hn : fs.length = n) (hm : gs.length = m) (hA0 : WfS A n c) (hB0 : WfS B m d) (hnm : n + m ≤ 1000) :
    Calls Try.prog 54 #[.slice A n c, .slice B m d] w fun e w' => ∃ A' c' rs, e = .returned (.slice A' rs.length c') ∧ RF w' A' rs ∧ WfS A' rs.length c' ∧ SetF rs (fun f => (f ∈ fs ∨ f ∈ gs) ∧ okF f) ∧ rs.length ≤ n + m ∧ Below w.heap.size w w' := by
  have B1 := Lib.hid ((Below.refl w.heap.size w).alloc (Nat.le_refl _) (.cells #[.slice A n c, .slice B m d] 58))
  have X1 := Lib.hid (Blk.new w 58 #[.slice A n c, .slice B m d])
  have R1 := Lib.hid (hR.below B1.out)
  have S1 := Lib.hid (hS.below B1.out)
  have Hn := Lib.hid hn
  have Hm := Lib.hid hm
  have WA := Lib.hid hA0
  have WB := Lib.hid hB0
  clear hR hS hn hm hA0 hB0
  go_enter Try.func54, Try.ntmps54
  go_wp2_with fail
  refine (concatF_any _ A B n m c d fs gs _ X1.out R1.out S1.out Hn.out Hm.out WA.out WB.out (by omega) (by omega)).mono ?_
  rintro e w2 ⟨A2, c2, rfl, hr, _, hb⟩
  have R2 := Lib.hid hr
  have B2 := Lib.hid (B1.out.trans (hb.mono B1.out.size))
  clear hr hb
  go_wp2_with fail
  refine (Of_any A2 (n + m) c2 (fs ++ gs) _ R2.out (by rw [List.length_append, Hn.out, Hm.out]) hnm).mono ?_
  rintro e w3 ⟨A3, c3, rs, rfl, hr, hw, hs, hl, hb⟩
  have R3 := Lib.hid hr
  have S3 := Lib.hid hs
  have B3 := Lib.hid (B2.out.trans (hb.mono B2.out.size))
  clear hr hs hb
  go_wp2_with fail
  go_ret
  exact ⟨A3, c3, rs, rfl, R3.out, hw, S3.out.congr (fun f => by rw [List.mem_append]), hl, B3.out⟩


set_option maxHeartbeats 4000000 in
theorem Minus_any (A B : Option Addr) (n m c d : Nat) (fs gs : List Fct) (w : World) (hR : RF w A fs) (hS : RF w B gs) (hn : fs.length = n) (hm : gs.length = m) (hn1 : n ≤ 1000) (hm1 : m ≤ 1000) :
    Calls Try.prog 26 #[.slice A n c, .slice B m d] w fun e w' => ∃ A' c' rs, e = .returned (.slice A' rs.length c') ∧ RF w' A' rs ∧ WfS A' rs.length c' ∧ SetF rs (fun f => (f ∈ fs ∧ ¬ f ∈ gs) ∧ okF f) ∧ rs.length ≤ n ∧ Below w.heap.size w w' := by
  subst hn
  have R0 := Lib.hid hR
  have S0 := Lib.hid hS
  have Hm := Lib.hid hm
  clear hR hS hm
  obtain ⟨j0, ji, jz0, jz1, jz2⟩ := info_parts info_fact
  go_enter Try.func26, Try.ntmps26
  go_wp2_with fail
  go_loopw [5, 10] (fun vs i wr => ∃ (k : Nat) (v : Value) (t : Nat) (hs : List Fct), v = vs ∧ i = .int .i64 k ∧ k ≤ fs.length ∧ t ≤ k ∧ Hid (hs.length = t) ∧ Hid (hs = (fs.take k).filter (fun f => !decide (f ∈ gs))) ∧ Hid (wr.ownsRow w.heap.size 66 3 v t (flat Fct.cells hs)) ∧ Hid (Below w.heap.size w wr)) (fun _ i _ => fs.length - (intOf i).toNat)
  case atStart => exact ⟨0, _, 0, [], rfl, rfl, by omega, by omega, rfl, by simp [Hid], World.ownsRow_nil _ _ _ _, Below.refl _ _⟩
  case round =>
    obtain ⟨k, v, t, hs, rfl, rfl, hk, htk, hgl, hG, Ol, Bl⟩ := hrel
    have Zl := Lib.hid Bl.out.size
    by_cases hlt : k < fs.length
    · obtain ⟨x, hx⟩ := some_at hlt
      obtain ⟨b, o, rfl, hb, c0, c1, c2⟩ := RF.at (R0.out.below Bl.out) hx
      have B3 := Lib.hid (Bl.out.alloc Zl.out (.cells #[.int .i64 x.k, .int .i64 x.a, .int .i64 x.b] 66))
      have X3 := Lib.hid (Blk.new wr 66 #[.int .i64 x.k, .int .i64 x.a, .int .i64 x.b])
      have O3 := Lib.hid (Ol.out.alloc (.cells #[.int .i64 x.k, .int .i64 x.a, .int .i64 x.b] 66))
      have Z3 := Lib.hid B3.out.size
      have Hx := Lib.hid hx
      clear hx
      go_wp2_with fail
      refine (Has_any B m d gs x (decide (x ∈ gs)) _ (S0.out.below B3.out) Hm.out (by omega) rfl).mono ?_
      rintro e w4 ⟨rfl, hb4⟩
      have B4 := Lib.hid (B3.out.trans (hb4.mono Z3.out))
      have X4 := Lib.hid (X3.out.below hb4 X3.out.lt)
      have O4 := Lib.hid (own_bel O3.out hb4)
      have Z4 := Lib.hid B4.out.size
      clear hb4
      by_cases hv : x ∉ gs
      · have hG2 : Hid (hs ++ [x] = (fs.take (k + 1)).filter (fun f => !decide (f ∈ gs))) := by
          unfold Hid
          rw [List.take_add_one, Hx.out, Option.toList_some, List.filter_append, ← hG.out]
          simp [hv]
        simp only [hv, decide_true, decide_false]
        have d0 := X4.out.cell 0
        have d1 := X4.out.cell 1
        have d2 := X4.out.cell 2
        have B5 := Lib.hid (B4.out.alloc Z4.out (.cells #[.int .i64 x.k, .int .i64 x.a, .int .i64 x.b] 66))
        have O5 := Lib.hid (O4.out.alloc (.cells #[.int .i64 x.k, .int .i64 x.a, .int .i64 x.b] 66))
        have S5 := Lib.hid (Src.new (m := 1) (c := 1) (size := 3) (Blk.new w4 66 #[.int .i64 x.k, .int .i64 x.a, .int .i64 x.b]) rfl)
        have Z5 := Lib.hid B5.out.size
        have N5 : Hid (∀ y ∈ (#[.int .i64 x.k, .int .i64 x.a, .int .i64 x.b] : Array Value).toList, y.oneCell' = true) := by intro y hy; simp at hy; rcases hy with rfl | rfl | rfl <;> rfl
        clear hv
        go_wp2_with (at_builtin; refine wpList_append_src _ rfl (.tmp 18) (.tmp 20) 58 rfl w.heap.size 66 j0 _ 3 24 Try.underlying58 ji jz0 jz1 jz2 rfl (by decide) _ t (flat Fct.cells hs) rfl O5.out 1 _ _ rfl S5.out N5.out (by unfold maxLen; omega) (by omega) Z5.out ?_; intro v7 w7 hown7 hg7; have B7 := Lib.hid (below_append B5.out O5.out hg7 Z5.out); have O7 := Lib.hid hown7; clear hown7 hg7)
        go_roundw
        case rel => exact ⟨k + 1, _, t + 1, hs ++ [x], rfl, by go_num, hlt, by omega, by rw [Hid, List.length_append, hgl.out]; rfl, hG2, by rw [Hid, flat_append, flat_one]; exact O7.out, B7⟩
        case measure => simp [intOf]; omega
      · have hG2 : Hid (hs = (fs.take (k + 1)).filter (fun f => !decide (f ∈ gs))) := by
          unfold Hid
          rw [List.take_add_one, Hx.out, Option.toList_some, List.filter_append, ← hG.out]
          simp_all
        have hv' : x ∈ gs := Classical.not_not.1 hv
        simp only [hv', decide_true]
        clear hv
        go_wp2_with fail
        go_roundw
        case rel => exact ⟨k + 1, _, t, hs, rfl, by go_num, hlt, by omega, hgl, hG2, O4, B4⟩
        case measure => simp [intOf]; omega
    · have hkn : k = fs.length := by omega
      have hG2 : Hid (hs = fs.filter (fun f => !decide (f ∈ gs))) := by
        have := hG.out
        rw [hkn, List.take_length] at this
        exact this
      obtain ⟨A4, c4, rfl⟩ := own_slice Ol.out
      go_wp2_with fail
      refine (Of_any A4 t c4 hs _ (RK.own Fct.len Ol.out hgl.out) hgl.out (by omega)).mono ?_
      rintro e w5 ⟨A5, c5, rs, rfl, hr5, hw5, hs5, hl5, hb5⟩
      have R5 := Lib.hid hr5
      have S5 := Lib.hid hs5
      have B5 := Lib.hid (Bl.out.trans (hb5.mono Zl.out))
      clear hr5 hb5 hs5
      go_wp2_with fail
      go_ret
      refine ⟨A5, c5, rs, rfl, R5.out, hw5, S5.out.congr (fun f => ?_), by omega, B5.out⟩
      rw [hG2.out, List.mem_filter]
      simp

set_option maxHeartbeats 4000000 in
theorem Apply_any (A B C : Option Addr) (n m p c d q : Nat) (fs gs hs : List Fct) (w : World) (hR : RF w A fs) (hS : RF w B gs) (hT : RF w C hs) (hn : fs.length = n) (hm : gs.length = m) (hp : hs.length = p) (hC0 : WfS C p q) (hn1 : n ≤ 500) (hm1 : m ≤ 500) (hp1 : p ≤ 500) :
    Calls Try.prog 28 #[.slice A n c, .slice B m d, .slice C p q] w fun e w' => ∃ A' c' rs, e = .returned (.slice A' rs.length c') ∧ RF w' A' rs ∧ WfS A' rs.length c' ∧ SetF rs (fun f => (((f ∈ fs ∧ ¬ f ∈ gs) ∧ okF f) ∨ f ∈ hs) ∧ okF f) ∧ rs.length ≤ n + p ∧ Below w.heap.size w w' := by
  have R0 := Lib.hid hR
  have S0 := Lib.hid hS
  have T0 := Lib.hid hT
  have Hn := Lib.hid hn
  have Hm := Lib.hid hm
  have Hp := Lib.hid hp
  have WC := Lib.hid hC0
  clear hR hS hT hn hm hp hC0
  go_enter Try.func28, Try.ntmps28
  go_wp2_with fail
  refine (Minus_any A B n m c d fs gs _ R0.out S0.out Hn.out Hm.out (by omega) (by omega)).mono ?_
  rintro e w2 ⟨A2, c2, rs, rfl, hr, hw, hs2, hl, hb⟩
  have R2 := Lib.hid hr
  have S2 := Lib.hid hs2
  have B2 := Lib.hid hb
  have W2 := Lib.hid hw
  have T2 := Lib.hid (T0.out.below hb)
  clear hr hb hs2 hw
  go_wp2_with fail
  refine (Join_any A2 C rs.length p c2 q rs hs _ R2.out T2.out rfl Hp.out W2.out WC.out (by omega)).mono ?_
  rintro e w3 ⟨A3, c3, qs, rfl, hr, hw, hs3, hl3, hb⟩
  have R3 := Lib.hid hr
  have S3 := Lib.hid hs3
  have B3 := Lib.hid (B2.out.trans (hb.mono B2.out.size))
  clear hr hs3 hb
  go_wp2_with fail
  go_ret
  refine ⟨A3, c3, qs, rfl, R3.out, hw, S3.out.congr (fun f => ?_), by omega, B3.out⟩
  rw [S2.out.2]
theorem Apply_nil (A : Option Addr) (n c : Nat) (fs : List Fct) (w : World) (hR : RF w A fs) (hn : fs.length = n) (hn1 : n ≤ 500) :
    Calls Try.prog 28 #[.slice A n c, .slice none 0 0, .slice none 0 0] w fun e w' => ∃ A' c' rs, e = .returned (.slice A' rs.length c') ∧ RF w' A' rs ∧ WfS A' rs.length c' ∧ SetF rs (fun f => f ∈ fs ∧ okF f) ∧ rs.length ≤ n ∧ Below w.heap.size w w' := by
  refine (Apply_any A none none n 0 0 c 0 0 fs [] [] w hR (RK.nil _ _) (RK.nil _ _) hn rfl rfl (.inl ⟨rfl, rfl, rfl⟩) hn1 (by omega) (by omega)).mono ?_
  rintro e w' ⟨A', c', rs, h1, h2, h3, h4, h5, h6⟩
  exact ⟨A', c', rs, h1, h2, h3, h4.congr (fun f => by simp), by omega, h6⟩
end Go.Proofs.Ytioofkhadjaldaa
