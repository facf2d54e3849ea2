/- The walks of gantkeep4.Facts and facted. -/
import Derived.Test.YtobaoddfffjagaaFactH
import Derived.Test.YtobaoddfffjagaaMake
namespace Go.Proofs.Ytobaoddfffjagaa
open Go.RowKit
set_option linter.unusedVariables false

theorem own_same {w w' : World} {base : Nat} {e : TypeId} {size n : Nat} {v : Value} {xs : List Value} (h : w.ownsRow base e size v n xs) (he : ∀ g, v.ownBlock = some g → w'.heap[g]? = w.heap[g]?) : w'.ownsRow base e size v n xs := by
  refine ⟨h.1, ?_⟩
  rcases h.2 with hn | ⟨g, cap, cur, rfl, hbb, hg, rest⟩
  · exact .inl hn
  · exact .inr ⟨g, cap, cur, rfl, hbb, (he g rfl).trans hg, rest⟩

/-- A stream and a row of facts. -/
structure FS (w0 wi : World) (b : Nat) (v : Value) (n : Nat) (fs : List Fct) : Prop where
  strm : Strm w0.heap.size wi b
  below : Below w0.heap.size w0 wi
  own : wi.ownsRow w0.heap.size 27 3 v n (flat Fct.cells fs)
theorem FS.ownne {w0 wi : World} {b : Nat} {v : Value} {n : Nat} {fs : List Fct} (h : FS w0 wi b v n fs) : v.ownBlock ≠ some b := by
  obtain ⟨u, hu⟩ := h.strm.blk
  exact own_blk_ne h.own hu (by decide)
theorem FS.next {w0 wi w' : World} {b : Nat} {v : Value} {n : Nat} {fs : List Fct} (h : FS w0 wi b v n fs) (hs : Strm w0.heap.size w' b) (hg : wi.grownBy w' (some b)) : FS w0 w' b v n fs :=
  ⟨hs, h.below.grown hg h.below.size (fun k hk => by cases hk; exact h.strm.1), own_same h.own (fun g hgg => hg.block g (h.own.lt g hgg).2 (by rw [← hgg]; exact h.ownne))⟩
theorem FS.alloc {w0 wi : World} {b : Nat} {v : Value} {n : Nat} {fs : List Fct} (h : FS w0 wi b v n fs) (o : Obj) : FS w0 (wi.alloc o) b v n fs :=
  ⟨h.strm.alloc o, h.below.alloc h.below.size o, h.own.alloc o⟩
/-- A block of a fact that is not the row's. -/
structure FB (w0 wi : World) (b : Nat) (v : Value) (x : Nat) (f : Fct) : Prop where
  blk : Blk wi x 27 #[.int .i64 f.k, .int .i64 f.a, .int .i64 f.b]
  ne : v.ownBlock ≠ some x
  le : w0.heap.size ≤ x
theorem FB.new {w0 wi : World} {b : Nat} {v : Value} {n : Nat} {fs : List Fct} (h : FS w0 wi b v n fs) (f : Fct) : FB w0 (wi.alloc (.cells #[.int .i64 f.k, .int .i64 f.a, .int .i64 f.b] 27)) b v wi.heap.size f :=
  ⟨Blk.new _ _ _, fun e => Nat.lt_irrefl _ (h.own.lt _ e).2, h.below.size⟩
theorem FB.next {w0 wi w' : World} {b x : Nat} {v : Value} {n : Nat} {fs : List Fct} {f : Fct} (h : FB w0 wi b v x f) (hs : FS w0 wi b v n fs) (hg : wi.grownBy w' (some b)) : FB w0 w' b v x f := by
  obtain ⟨u, hu⟩ := hs.strm.blk
  exact ⟨h.blk.grown hg (by simpa using h.blk.ne_ hu (by decide)), h.ne, h.le⟩
theorem FB.alloc {w0 wi : World} {b x : Nat} {v : Value} {f : Fct} (h : FB w0 wi b v x f) (o : Obj) : FB w0 (wi.alloc o) b v x f := ⟨h.blk.alloc o, h.ne, h.le⟩
theorem FS.set1 {w0 wi : World} {b x : Nat} {v : Value} {n : Nat} {fs : List Fct} {f : Fct} (hs : FS w0 wi b v n fs) (h : FB w0 wi b v x f) (y : Int) : FS w0 (wi.setCell ⟨x, 1, none⟩ (.int .i64 y)) b v n fs ∧ FB w0 (wi.setCell ⟨x, 1, none⟩ (.int .i64 y)) b v x ⟨f.k, y, f.b⟩ := by
  obtain ⟨u, hu⟩ := hs.strm.blk
  have hne := h.blk.ne_ hu (by decide)
  refine ⟨⟨hs.strm.setCell (Ne.symm hne) h.le _, hs.below.setCell (p := ⟨x, 1, none⟩) h.le _, own_same hs.own (fun g hg => Below.heap_setCell wi ⟨x, 1, none⟩ _ g (fun e => h.ne (by rw [hg, e])))⟩, ⟨by simpa using h.blk.set_ 1 (.int .i64 y), h.ne, h.le⟩⟩
theorem FS.set2 {w0 wi : World} {b x : Nat} {v : Value} {n : Nat} {fs : List Fct} {f : Fct} (hs : FS w0 wi b v n fs) (h : FB w0 wi b v x f) (y : Int) : FS w0 (wi.setCell ⟨x, 2, none⟩ (.int .i64 y)) b v n fs ∧ FB w0 (wi.setCell ⟨x, 2, none⟩ (.int .i64 y)) b v x ⟨f.k, f.a, y⟩ := by
  obtain ⟨u, hu⟩ := hs.strm.blk
  have hne := h.blk.ne_ hu (by decide)
  refine ⟨⟨hs.strm.setCell (Ne.symm hne) h.le _, hs.below.setCell (p := ⟨x, 2, none⟩) h.le _, own_same hs.own (fun g hg => Below.heap_setCell wi ⟨x, 2, none⟩ _ g (fun e => h.ne (by rw [hg, e])))⟩, ⟨by simpa using h.blk.set_ 2 (.int .i64 y), h.ne, h.le⟩⟩
theorem FB.at {w0 wi : World} {b x : Nat} {v : Value} {f : Fct} (h : FB w0 wi b v x f) : wi.cell? ⟨x, 0, none⟩ = some (.int .i64 f.k) ∧ wi.cell? ⟨x, 1, none⟩ = some (.int .i64 f.a) ∧ wi.cell? ⟨x, 2, none⟩ = some (.int .i64 f.b) ∧ wi.frozen? ⟨x, 1, none⟩ = false ∧ wi.frozen? ⟨x, 2, none⟩ = false :=
  ⟨h.blk.cell 0, h.blk.cell 1, h.blk.cell 2, h.blk.frozen 1, h.blk.frozen 2⟩

set_option maxHeartbeats 8000000 in
theorem Facts_any (A0 : Option Addr) (n0 c0 : Nat) (z0 : List Int) (w : World) (h0 : IntArg w A0 n0 c0 z0) :
    Calls Try.prog 6 #[.slice A0 n0 c0] w fun e w' => ∃ v n fs, e = .returned v ∧ n ≤ 9 ∧ fs.length = n ∧ w'.ownsRow w.heap.size 27 3 v n (flat Fct.cells fs) ∧ Below w.heap.size w w' := by
  have S0 := Lib.hid h0.strm
  have B0 := Lib.hid ((Below.refl w.heap.size w).alloc (Nat.le_refl _) (.cells #[.slice A0 n0 c0] 41))
  clear h0
  obtain ⟨b, hb⟩ : ∃ b, b = w.heap.size := ⟨_, rfl⟩
  have Hb := Lib.hid hb
  clear hb
  obtain ⟨j0, ji, jz0, jz1, jz2⟩ := info_parts info_fact
  go_enter Try.func6, Try.ntmps6
  go_wp2_with fail
  refine (next_any _ _ _ _ S0.out (by omega) (by omega)).mono ?_
  rintro e w1 ⟨r, rfl, hr0, hr1, hs1, hg1⟩
  have B1 := Lib.hid (B0.out.grown hg1 (by simp) (fun k hk => by cases hk; exact Nat.le_refl _))
  have F1 : Hid (FS w w1 b (.slice none 0 0) 0 []) := ⟨by rw [Hb.out]; exact hs1, B1.out, World.ownsRow_nil _ _ _ _⟩
  obtain ⟨r, rfl⟩ := Int.eq_ofNat_of_zero_le hr0
  clear hs1 hg1 S0 B0 B1
  rw [← Hb.out]
  clear Hb
  go_wp2_with fail
  go_loopw [4, 11] (fun vs i wr => ∃ (k : Nat) (v : Value) (fs : List Fct), v = vs ∧ k ≤ r ∧ i = .int .i64 k ∧ Hid (fs.length = k) ∧ Hid (FS w wr b v k fs)) (fun _ i _ => r - (intOf i).toNat)
  case atStart => exact ⟨0, _, [], rfl, by omega, rfl, rfl, F1⟩
  case round =>
    obtain ⟨k, v, fs, rfl, hk, rfl, hfl, Fl⟩ := hrel
    by_cases hlt : k < r
    · go_wp2_with fail
      refine (next_any _ _ _ _ Fl.out.strm (by omega) (by omega)).mono ?_
      rintro e w2 ⟨x1, rfl, x10, x11, hs2, hg2⟩
      have F2 := Lib.hid (Fl.out.next hs2 hg2)
      clear hs2 hg2
      by_cases q1 : x1 = 0
      · subst q1
        have F3 := Lib.hid (F2.out.alloc (.cells #[.int .i64 1, .int .i64 0, .int .i64 0] 27))
        have X3 := Lib.hid (FB.new F2.out ⟨1, 0, 0⟩)
        go_wp2_with fail
        refine (next_any _ _ _ _ F3.out.strm (by omega) (by omega)).mono ?_
        rintro e w4 ⟨y, rfl, y0, y1, hs, hg⟩
        have F4 := Lib.hid (F3.out.next hs hg)
        have X4 := Lib.hid (X3.out.next F3.out hg)
        clear hs hg
        obtain ⟨d0, d1, d2, f1, f2⟩ := X4.out.at
        clear d0 d1 d2 f1 f2
        go_wp2_with fail
        refine (next_any _ _ _ _ F4.out.strm (by omega) (by omega)).mono ?_
        rintro e w5 ⟨z, rfl, z0, z1, hs, hg⟩
        have F5 := Lib.hid (F4.out.next hs hg)
        have X5 := Lib.hid (X4.out.next F4.out hg)
        clear hs hg
        obtain ⟨d0, d1, d2, f1, f2⟩ := X5.out.at
        obtain ⟨F6, X6⟩ := F5.out.set1 X5.out y
        obtain ⟨G6, Y6⟩ := F6.set2 X6 z
        have FF := Lib.hid G6
        have XX := Lib.hid Y6
        clear F6 X6 G6 Y6
        have F7 := Lib.hid (FF.out.alloc (.cells #[.int .i64 1, .int .i64 y, .int .i64 z] 27))
        have S7 := Lib.hid (Src.new (m := 1) (c := 1) (size := 3) (Blk.new ((w5.setCell ⟨w2.heap.size, 1, none⟩ (.int .i64 y)).setCell ⟨w2.heap.size, 2, none⟩ (.int .i64 z)) 27 #[.int .i64 1, .int .i64 y, .int .i64 z]) rfl)
        simp only [World.size_setCell] at S7
        have Z7 := Lib.hid F7.out.below.size
        have N7 : Hid (∀ q ∈ (#[.int .i64 1, .int .i64 y, .int .i64 z] : Array Value).toList, q.oneCell' = true) := by intro q hq; simp at hq; rcases hq with rfl | rfl | rfl <;> rfl
        go_wp2_with (at_builtin; refine wpList_append_src _ rfl (.tmp 46) (.tmp 48) 23 rfl w.heap.size 27 j0 _ 3 24 Try.underlying23 ji jz0 jz1 jz2 rfl (by decide) _ k (flat Fct.cells fs) rfl F7.out.own 1 _ _ rfl S7.out N7.out (by unfold maxLen; omega) (by omega) Z7.out ?_; intro v8 w8 hown8 hg8; have B8 := Lib.hid (below_append F7.out.below F7.out.own hg8 Z7.out); have O8 := Lib.hid hown8; have T8 := Lib.hid (F7.out.strm.grown hg8 (fun q hq => (F7.out.own.lt q hq).1) (Ne.symm F7.out.ownne)); clear hown8 hg8)
        go_roundw
        case rel => exact ⟨k + 1, _, fs ++ [⟨1, y, z⟩], rfl, hlt, by go_num, by rw [Hid, List.length_append, hfl.out]; rfl, ⟨T8.out, B8.out, by rw [flat_append, flat_one]; exact O8.out⟩⟩
        case measure => simp [intOf]; omega
      by_cases q2 : x1 = 1
      · subst q2
        have F3 := Lib.hid (F2.out.alloc (.cells #[.int .i64 2, .int .i64 0, .int .i64 0] 27))
        have X3 := Lib.hid (FB.new F2.out ⟨2, 0, 0⟩)
        go_wp2_with fail
        refine (next_any _ _ _ _ F3.out.strm (by omega) (by omega)).mono ?_
        rintro e w4 ⟨y, rfl, y0, y1, hs, hg⟩
        have F4 := Lib.hid (F3.out.next hs hg)
        have X4 := Lib.hid (X3.out.next F3.out hg)
        clear hs hg
        obtain ⟨d0, d1, d2, f1, f2⟩ := X4.out.at
        clear d0 d1 d2 f1 f2
        go_wp2_with fail
        refine (next_any _ _ _ _ F4.out.strm (by omega) (by omega)).mono ?_
        rintro e w5 ⟨z, rfl, z0, z1, hs, hg⟩
        have F5 := Lib.hid (F4.out.next hs hg)
        have X5 := Lib.hid (X4.out.next F4.out hg)
        clear hs hg
        obtain ⟨d0, d1, d2, f1, f2⟩ := X5.out.at
        obtain ⟨F6, X6⟩ := F5.out.set1 X5.out y
        obtain ⟨G6, Y6⟩ := F6.set2 X6 z
        have FF := Lib.hid G6
        have XX := Lib.hid Y6
        clear F6 X6 G6 Y6
        have F7 := Lib.hid (FF.out.alloc (.cells #[.int .i64 2, .int .i64 y, .int .i64 z] 27))
        have S7 := Lib.hid (Src.new (m := 1) (c := 1) (size := 3) (Blk.new ((w5.setCell ⟨w2.heap.size, 1, none⟩ (.int .i64 y)).setCell ⟨w2.heap.size, 2, none⟩ (.int .i64 z)) 27 #[.int .i64 2, .int .i64 y, .int .i64 z]) rfl)
        simp only [World.size_setCell] at S7
        have Z7 := Lib.hid F7.out.below.size
        have N7 : Hid (∀ q ∈ (#[.int .i64 2, .int .i64 y, .int .i64 z] : Array Value).toList, q.oneCell' = true) := by intro q hq; simp at hq; rcases hq with rfl | rfl | rfl <;> rfl
        go_wp2_with (at_builtin; refine wpList_append_src _ rfl (.tmp 46) (.tmp 48) 23 rfl w.heap.size 27 j0 _ 3 24 Try.underlying23 ji jz0 jz1 jz2 rfl (by decide) _ k (flat Fct.cells fs) rfl F7.out.own 1 _ _ rfl S7.out N7.out (by unfold maxLen; omega) (by omega) Z7.out ?_; intro v8 w8 hown8 hg8; have B8 := Lib.hid (below_append F7.out.below F7.out.own hg8 Z7.out); have O8 := Lib.hid hown8; have T8 := Lib.hid (F7.out.strm.grown hg8 (fun q hq => (F7.out.own.lt q hq).1) (Ne.symm F7.out.ownne)); clear hown8 hg8)
        go_roundw
        case rel => exact ⟨k + 1, _, fs ++ [⟨2, y, z⟩], rfl, hlt, by go_num, by rw [Hid, List.length_append, hfl.out]; rfl, ⟨T8.out, B8.out, by rw [flat_append, flat_one]; exact O8.out⟩⟩
        case measure => simp [intOf]; omega
      by_cases q3 : x1 = 5
      · subst q3
        have F3 := Lib.hid (F2.out.alloc (.cells #[.int .i64 6, .int .i64 0, .int .i64 0] 27))
        have X3 := Lib.hid (FB.new F2.out ⟨6, 0, 0⟩)
        go_wp2_with fail
        refine (next_any _ _ _ _ F3.out.strm (by omega) (by omega)).mono ?_
        rintro e w4 ⟨y, rfl, y0, y1, hs, hg⟩
        have F4 := Lib.hid (F3.out.next hs hg)
        have X4 := Lib.hid (X3.out.next F3.out hg)
        clear hs hg
        obtain ⟨d0, d1, d2, f1, f2⟩ := X4.out.at
        clear d0 d1 d2 f1 f2
        go_wp2_with fail
        refine (next_any _ _ _ _ F4.out.strm (by omega) (by omega)).mono ?_
        rintro e w5 ⟨z, rfl, z0, z1, hs, hg⟩
        have F5 := Lib.hid (F4.out.next hs hg)
        have X5 := Lib.hid (X4.out.next F4.out hg)
        clear hs hg
        obtain ⟨d0, d1, d2, f1, f2⟩ := X5.out.at
        obtain ⟨F6, X6⟩ := F5.out.set1 X5.out y
        obtain ⟨G6, Y6⟩ := F6.set2 X6 z
        have FF := Lib.hid G6
        have XX := Lib.hid Y6
        clear F6 X6 G6 Y6
        have F7 := Lib.hid (FF.out.alloc (.cells #[.int .i64 6, .int .i64 y, .int .i64 z] 27))
        have S7 := Lib.hid (Src.new (m := 1) (c := 1) (size := 3) (Blk.new ((w5.setCell ⟨w2.heap.size, 1, none⟩ (.int .i64 y)).setCell ⟨w2.heap.size, 2, none⟩ (.int .i64 z)) 27 #[.int .i64 6, .int .i64 y, .int .i64 z]) rfl)
        simp only [World.size_setCell] at S7
        have Z7 := Lib.hid F7.out.below.size
        have N7 : Hid (∀ q ∈ (#[.int .i64 6, .int .i64 y, .int .i64 z] : Array Value).toList, q.oneCell' = true) := by intro q hq; simp at hq; rcases hq with rfl | rfl | rfl <;> rfl
        go_wp2_with (at_builtin; refine wpList_append_src _ rfl (.tmp 46) (.tmp 48) 23 rfl w.heap.size 27 j0 _ 3 24 Try.underlying23 ji jz0 jz1 jz2 rfl (by decide) _ k (flat Fct.cells fs) rfl F7.out.own 1 _ _ rfl S7.out N7.out (by unfold maxLen; omega) (by omega) Z7.out ?_; intro v8 w8 hown8 hg8; have B8 := Lib.hid (below_append F7.out.below F7.out.own hg8 Z7.out); have O8 := Lib.hid hown8; have T8 := Lib.hid (F7.out.strm.grown hg8 (fun q hq => (F7.out.own.lt q hq).1) (Ne.symm F7.out.ownne)); clear hown8 hg8)
        go_roundw
        case rel => exact ⟨k + 1, _, fs ++ [⟨6, y, z⟩], rfl, hlt, by go_num, by rw [Hid, List.length_append, hfl.out]; rfl, ⟨T8.out, B8.out, by rw [flat_append, flat_one]; exact O8.out⟩⟩
        case measure => simp [intOf]; omega
      have g1 : IntKind.i64.wrap (1 + x1) = 1 + x1 := IntWalk.i64_in _ (by omega)
      have e1 : (1 + x1 == 1) = false := by simp; omega
      have e2 : (1 + x1 == 2) = false := by simp; omega
      have e3 : (1 + x1 == 6) = false := by simp; omega
      clear q1 q2 q3
      have F3 := Lib.hid (F2.out.alloc (.cells #[.int .i64 (1 + x1), .int .i64 0, .int .i64 0] 27))
      have X3 := Lib.hid (FB.new F2.out ⟨(1 + x1), 0, 0⟩)
      go_wp2_with fail
      refine (next_any _ _ _ _ F3.out.strm (by omega) (by omega)).mono ?_
      rintro e w4 ⟨y, rfl, y0, y1, hs, hg⟩
      have F4 := Lib.hid (F3.out.next hs hg)
      have X4 := Lib.hid (X3.out.next F3.out hg)
      clear hs hg
      obtain ⟨d0, d1, d2, f1, f2⟩ := X4.out.at
      obtain ⟨F6, X6⟩ := F4.out.set1 X4.out y
      have FF := Lib.hid F6
      have XX := Lib.hid X6
      clear F6 X6
      have F7 := Lib.hid (FF.out.alloc (.cells #[.int .i64 (1 + x1), .int .i64 y, .int .i64 0] 27))
      have S7 := Lib.hid (Src.new (m := 1) (c := 1) (size := 3) (Blk.new (w4.setCell ⟨w2.heap.size, 1, none⟩ (.int .i64 y)) 27 #[.int .i64 (1 + x1), .int .i64 y, .int .i64 0]) rfl)
      simp only [World.size_setCell] at S7
      have Z7 := Lib.hid F7.out.below.size
      have N7 : Hid (∀ q ∈ (#[.int .i64 (1 + x1), .int .i64 y, .int .i64 0] : Array Value).toList, q.oneCell' = true) := by intro q hq; simp at hq; rcases hq with rfl | rfl | rfl <;> rfl
      go_wp2_with (at_builtin; refine wpList_append_src _ rfl (.tmp 46) (.tmp 48) 23 rfl w.heap.size 27 j0 _ 3 24 Try.underlying23 ji jz0 jz1 jz2 rfl (by decide) _ k (flat Fct.cells fs) rfl F7.out.own 1 _ _ rfl S7.out N7.out (by unfold maxLen; omega) (by omega) Z7.out ?_; intro v8 w8 hown8 hg8; have B8 := Lib.hid (below_append F7.out.below F7.out.own hg8 Z7.out); have O8 := Lib.hid hown8; have T8 := Lib.hid (F7.out.strm.grown hg8 (fun q hq => (F7.out.own.lt q hq).1) (Ne.symm F7.out.ownne)); clear hown8 hg8)
      go_roundw
      case rel => exact ⟨k + 1, _, fs ++ [⟨(1 + x1), y, 0⟩], rfl, hlt, by go_num, by rw [Hid, List.length_append, hfl.out]; rfl, ⟨T8.out, B8.out, by rw [flat_append, flat_one]; exact O8.out⟩⟩
      case measure => simp [intOf]; omega
    · have hkr : k ≤ 9 := by omega
      go_wp2_with fail
      go_ret
      exact ⟨v, k, fs, rfl, hkr, hfl.out, Fl.out.own, Fl.out.below⟩

set_option maxHeartbeats 4000000 in
theorem facted_any (w : World) : Calls Try.prog 8 #[] w fun e w' => e = .returned (.bool true) ∧ Below w.heap.size w w' := by
  go_enter Try.func8, Try.ntmps8
  go_wp2_with fail
  refine (Clash_any ⟨3, 0, 0⟩ ⟨2, 0, 1⟩ _ true (by show true = decide _; decide)).mono ?_
  rintro e w1 ⟨rfl, hb⟩
  have B1 := Lib.hid hb
  have Z1 := Lib.hid B1.out.size
  have B2 := Lib.hid (B1.out.alloc Z1.out (.cells #[.int .i64 5, .int .i64 0, .int .i64 0] 27))
  have Z2 := Lib.hid B2.out.size
  have R2 : Hid (RF (w1.alloc (.cells #[.int .i64 5, .int .i64 0, .int .i64 0] 27)) (some ⟨w1.heap.size, 0, none⟩) [⟨5, 0, 0⟩]) := CS.rf (cs := #[.int .i64 5, .int .i64 0, .int .i64 0]) (L := [⟨5, 0, 0⟩]) (fun j u hj => by
    match j, hj with
    | 0, hj => cases hj; exact ⟨rfl, rfl, rfl⟩) (Blk.new _ _ _) (fun _ _ h => h)
  clear hb
  go_wp2_with fail
  refine (Has_any _ 1 1 [⟨5, 0, 0⟩] ⟨5, 0, 0⟩ true _ R2.out rfl (by omega) (by show true = decide _; decide)).mono ?_
  rintro e w3 ⟨rfl, hb⟩
  have B3 := Lib.hid (B2.out.trans (hb.mono Z2.out))
  clear hb
  go_wp2_with fail
  go_ret
  exact ⟨rfl, B3.out⟩
end Go.Proofs.Ytobaoddfffjagaa
