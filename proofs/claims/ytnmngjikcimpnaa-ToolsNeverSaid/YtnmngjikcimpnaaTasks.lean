/- The walks of gantkeep4.Tasks and slices.Clone. -/
import Derived.Test.YtnmngjikcimpnaaTEnd
import Derived.Test.YtnmngjikcimpnaaBel
namespace Go.Proofs.Ytnmngjikcimpnaa
open Go.RowKit
set_option linter.unusedVariables false

theorem info_task : (Try.prog.info? 53).map (fun i => (i.zero, i.size, i.bytes)) = some (some (.agg #[.int .i64 0, .int .i64 0, .slice none 0 0]), 3, 40) := by kernel_rfl

set_option maxHeartbeats 1000000 in
theorem clone_int (A : Option Addr) (n c : Nat) (vs : List Value) (w : World) (hb : n ≤ 1000) (hX : Src w (.slice A n c) 1 n vs) (h1 : ∀ u ∈ vs, u.oneCell' = true) :
    Calls Try.prog 21 #[.slice A n c] w fun e w' => ∃ v, e = .returned v ∧ w'.ownsRow w.heap.size 3 1 v n vs ∧ Below w.heap.size w w' := by
  have HX := Lib.hid hX
  have H1 := Lib.hid h1
  have hnl := fun (w : World) (a : Option Addr) (n c : Nat) => Lib.run_eql_slice_nil (P := Try.prog) w 22 3 a n c 0 0 Try.underlying22
  obtain ⟨i0, hi, hz0, hz1, hz2⟩ := info_parts info_int
  clear hX h1
  rcases A with _ | a
  · have h0 : n = 0 ∧ vs = [] := by
      obtain ⟨hl, h⟩ := HX.out
      rcases h with ⟨h, rfl⟩ | ⟨b, o, c', h, _⟩
      · exact ⟨rfl, List.eq_nil_of_length_eq_zero (by simpa using hl)⟩
      · cases h
    obtain ⟨rfl, rfl⟩ := h0
    go_enter Try.func21, Try.ntmps21
    go_wp2_with fail
    go_ret
    exact ⟨_, rfl, World.ownsRow_nil _ _ _ _, Below.refl _ _⟩
  · have hA : ∃ b o, a = ⟨b, o, none⟩ ∧ ∀ (j : Nat) (u : Value), vs[j]? = some u → w.cell? ⟨b, o + j, none⟩ = some u := by
      obtain ⟨_, h⟩ := HX.out
      rcases h with ⟨h, _⟩ | ⟨b, o, c', h, hc⟩
      · cases h
      · cases h; exact ⟨b, o, rfl, hc⟩
    obtain ⟨b, o, rfl, hc⟩ := hA
    have B0 := Lib.hid ((Below.refl w.heap.size w).alloc (Nat.le_refl _) (.cells #[] 3))
    have X0 : Hid (Src (w.alloc (.cells #[] 3)) (.slice (some ⟨b, o, none⟩) n c) 1 n vs) :=
      ⟨HX.out.1, .inr ⟨b, o, c, rfl, fun j u hu => by
        have h := hc j u hu
        exact (B0.out.cell (p := ⟨b, o + j, none⟩) (World.block_lt_of_cell? w _ h)).trans h⟩⟩
    have O0 : Hid ((w.alloc (.cells #[] 3)).ownsRow w.heap.size 3 1 (.slice (some ⟨w.heap.size, 0, none⟩) 0 0) 0 []) := World.ownsRow_lit w #[] 0 (Nat.le_refl _) (by simp [maxLen]) (by simp)
    have S0 := Lib.hid B0.out.size
    clear hc
    go_enter Try.func21, Try.ntmps21
    go_wp2_with (at_builtin; refine wpList_append_src _ rfl (.tmp 5) (.tmp 6) 22 rfl w.heap.size 3 i0 _ 1 8 Try.underlying22 hi hz0 hz1 hz2 rfl (by decide) _ 0 [] rfl O0.out n vs _ rfl X0.out H1.out (by unfold maxLen; omega) (by omega) S0.out ?_; intro v7 w7 hown7 hg7; have B7 := Lib.hid (below_append B0.out O0.out hg7 S0.out); have U7 := Lib.hid hown7; clear hown7 hg7)
    go_ret
    exact ⟨v7, rfl, by simpa using U7.out, B7.out⟩

set_option maxHeartbeats 1000000 in
theorem clone_task (A : Option Addr) (n c : Nat) (vs : List Value) (w : World) (hb : n ≤ 1000) (hX : Src w (.slice A n c) 3 n vs) (h1 : ∀ u ∈ vs, u.oneCell' = true) :
    Calls Try.prog 23 #[.slice A n c] w fun e w' => ∃ v, e = .returned v ∧ w'.ownsRow w.heap.size 53 3 v n vs ∧ Below w.heap.size w w' := by
  have HX := Lib.hid hX
  have H1 := Lib.hid h1
  have hnl := fun (w : World) (a : Option Addr) (n c : Nat) => Lib.run_eql_slice_nil (P := Try.prog) w 45 53 a n c 0 0 Try.underlying45
  obtain ⟨i0, hi, hz0, hz1, hz2⟩ := info_parts info_task
  clear hX h1
  rcases A with _ | a
  · have h0 : n = 0 ∧ vs = [] := by
      obtain ⟨hl, h⟩ := HX.out
      rcases h with ⟨h, rfl⟩ | ⟨b, o, c', h, _⟩
      · exact ⟨rfl, List.eq_nil_of_length_eq_zero (by simpa using hl)⟩
      · cases h
    obtain ⟨rfl, rfl⟩ := h0
    go_enter Try.func23, Try.ntmps23
    go_wp2_with fail
    go_ret
    exact ⟨_, rfl, World.ownsRow_nil _ _ _ _, Below.refl _ _⟩
  · have hA : ∃ b o, a = ⟨b, o, none⟩ ∧ ∀ (j : Nat) (u : Value), vs[j]? = some u → w.cell? ⟨b, o + j, none⟩ = some u := by
      obtain ⟨_, h⟩ := HX.out
      rcases h with ⟨h, _⟩ | ⟨b, o, c', h, hc⟩
      · cases h
      · cases h; exact ⟨b, o, rfl, hc⟩
    obtain ⟨b, o, rfl, hc⟩ := hA
    have B0 := Lib.hid ((Below.refl w.heap.size w).alloc (Nat.le_refl _) (.cells #[] 53))
    have X0 : Hid (Src (w.alloc (.cells #[] 53)) (.slice (some ⟨b, o, none⟩) n c) 3 n vs) :=
      ⟨HX.out.1, .inr ⟨b, o, c, rfl, fun j u hu => by
        have h := hc j u hu
        exact (B0.out.cell (p := ⟨b, o + j, none⟩) (World.block_lt_of_cell? w _ h)).trans h⟩⟩
    have O0 : Hid ((w.alloc (.cells #[] 53)).ownsRow w.heap.size 53 3 (.slice (some ⟨w.heap.size, 0, none⟩) 0 0) 0 []) := World.ownsRow_lit w #[] 0 (Nat.le_refl _) (by simp [maxLen]) (by simp)
    have S0 := Lib.hid B0.out.size
    clear hc
    go_enter Try.func23, Try.ntmps23
    go_wp2_with (at_builtin; refine wpList_append_src _ rfl (.tmp 5) (.tmp 6) 45 rfl w.heap.size 53 i0 _ 3 40 Try.underlying45 hi hz0 hz1 hz2 rfl (by decide) _ 0 [] rfl O0.out n vs _ rfl X0.out H1.out (by unfold maxLen; omega) (by omega) S0.out ?_; intro v7 w7 hown7 hg7; have B7 := Lib.hid (below_append B0.out O0.out hg7 S0.out); have U7 := Lib.hid hown7; clear hown7 hg7)
    go_ret
    exact ⟨v7, rfl, by simpa using U7.out, B7.out⟩

/-- The address leads to an array of integers. -/
def RB (w : World) (A : Option Addr) : Prop := ∀ a, A = some a → ∃ cs, Blk w a.block 3 cs
theorem RB.below {w w' : World} {A : Option Addr} (h : RB w A) (hb : Below w.heap.size w w') : RB w' A := fun a ha => by
  obtain ⟨cs, hB⟩ := h a ha
  exact ⟨cs, hB.below hb hB.lt⟩
theorem RB.own {w : World} {base n c : Nat} {A : Option Addr} {xs : List Value} (h : w.ownsRow base 3 1 (.slice A n c) n xs) : RB w A := fun a ha => by
  subst ha
  rcases h.2 with ⟨h, _⟩ | ⟨g, cap, cur, h, _, hg, _⟩
  · cases h
  · cases h; exact ⟨cur, hg⟩
/-- The cells of tasks. -/
def TV (w : World) (ts : List Task) (vs : List Value) : Prop := vs.length = ts.length * 3 ∧ (∀ u ∈ vs, u.oneCell' = true) ∧ ∀ (j : Nat) (t : Task), ts[j]? = some t →
  vs[j * 3]? = some (.int .i64 t.tool) ∧ vs[j * 3 + 1]? = some (.int .i64 t.long) ∧ ∃ Aj cj, vs[j * 3 + 2]? = some (.slice Aj t.after.length cj) ∧ RI w Aj t.after ∧ RB w Aj
theorem TV.below {w w' : World} {ts : List Task} {vs : List Value} (h : TV w ts vs) (hb : Below w.heap.size w w') : TV w' ts vs := by
  obtain ⟨h1, h2, h3⟩ := h
  refine ⟨h1, h2, fun j t ht => ?_⟩
  obtain ⟨a, b, Aj, cj, c, d, f⟩ := h3 j t ht
  exact ⟨a, b, Aj, cj, c, d.below hb, f.below hb⟩
theorem TV.rt {w : World} {base : Nat} {A : Option Addr} {c : Nat} {ts : List Task} {vs : List Value} (h : TV w ts vs) (ho : w.ownsRow base 53 3 (.slice A ts.length c) ts.length vs) : RT w A ts := by
  intro hp
  obtain ⟨g, cap, hv, _, hlt⟩ := ho.form hp
  cases hv
  refine ⟨g, 0, rfl, hlt, fun j t ht => ?_⟩
  obtain ⟨a, b, Aj, cj, d, e, _⟩ := h.2.2 j t ht
  have hc := ho.cells (g := g) rfl
  have e1 := hc _ _ a
  have e2 := hc _ _ b
  have e3 := hc _ _ d
  rw [Addr.add_lit] at e1 e2 e3
  exact ⟨e1, by rw [Nat.add_assoc]; exact e2, Aj, cj, by rw [Nat.add_assoc]; exact e3, e⟩
theorem TV.snoc {w : World} {ts : List Task} {vs : List Value} {t : Task} {A : Option Addr} {c : Nat} (h : TV w ts vs) (hr : RI w A t.after) (hrb : RB w A) : TV w (ts ++ [t]) (vs ++ [.int .i64 t.tool, .int .i64 t.long, .slice A t.after.length c]) := by
  obtain ⟨h1, h2, h3⟩ := h
  refine ⟨by simp [h1]; omega, fun u hu => ?_, fun j t' ht => ?_⟩
  · rcases List.mem_append.1 hu with hu | hu
    · exact h2 u hu
    · simp at hu; rcases hu with rfl | rfl | rfl <;> rfl
  · by_cases hj : j < ts.length
    · rw [List.getElem?_append_left hj] at ht
      obtain ⟨a, b, Aj, cj, d, e⟩ := h3 j t' ht
      exact ⟨by rw [List.getElem?_append_left (lt_of_at a)]; exact a, by rw [List.getElem?_append_left (lt_of_at b)]; exact b, Aj, cj, by rw [List.getElem?_append_left (lt_of_at d)]; exact d, e⟩
    · have hje : j = ts.length := by have := lt_of_at ht; simp at this; omega
      subst hje
      simp at ht
      subst ht
      refine ⟨?_, ?_, A, c, ?_, hr, hrb⟩
      · rw [List.getElem?_append_right (by omega), h1]; simp
      · rw [List.getElem?_append_right (by omega), h1, show ts.length * 3 + 1 - ts.length * 3 = 1 by omega]; rfl
      · rw [List.getElem?_append_right (by omega), h1, show ts.length * 3 + 2 - ts.length * 3 = 2 by omega]; rfl
/-- Only the stream's block has turned, of what was there. -/
theorem TV.keep {B b : Nat} {w w' : World} {ts : List Task} {vs : List Value} (h : TV w ts vs) (hs : Strm B w b) (hz : w.heap.size ≤ w'.heap.size) (hold : ∀ j, j < w.heap.size → j ≠ b → w'.heap[j]? = w.heap[j]?) : TV w' ts vs := by
  obtain ⟨h1, h2, h3⟩ := h
  obtain ⟨_, A', c', xs, hB, _⟩ := hs
  refine ⟨h1, h2, fun j t ht => ?_⟩
  obtain ⟨a, b', Aj, cj, c, d, f⟩ := h3 j t ht
  refine ⟨a, b', Aj, cj, c, d.keep hz fun p o x hp hc => ?_, fun q hq => ?_⟩
  rotate_left
  · obtain ⟨cs, hcs⟩ := f q hq
    have hne : q.block ≠ b := hcs.ne_ hB (by decide)
    exact ⟨cs, (hold _ hcs.lt hne).trans hcs⟩
  have hne : p ≠ b := by
    rintro rfl
    rw [hB.cell] at hc
    rcases o with _ | o <;> simp at hc
  exact (World.cell?_of_block (a := ⟨p, o, none⟩) (hold p hp hne)).trans hc

/-- A row of tasks has grown. -/
theorem TV.grown {w w' : World} {ts : List Task} {vs : List Value} {base size n : Nat} {v : Value} {xs : List Value} (h : TV w ts vs) (ho : w.ownsRow base 53 size v n xs) (hg : w.grownBy w' v.ownBlock) : TV w' ts vs := by
  obtain ⟨h1, h2, h3⟩ := h
  refine ⟨h1, h2, fun j t ht => ?_⟩
  obtain ⟨a, b', Aj, cj, c, d, f⟩ := h3 j t ht
  have key : ∀ q, Aj = some q → ∃ cs, Blk w' q.block 3 cs ∧ w'.heap[q.block]? = w.heap[q.block]? := fun q hq => by
    obtain ⟨cs, hcs⟩ := f q hq
    have hne := own_blk_ne ho hcs (by decide)
    have := hg.block q.block hcs.lt (fun e => hne e.symm)
    exact ⟨cs, this.trans hcs, this⟩
  refine ⟨a, b', Aj, cj, c, fun hp => ?_, fun q hq => ?_⟩
  · obtain ⟨p, o, rfl, hlt, hc⟩ := d hp
    obtain ⟨_, _, he⟩ := key _ rfl
    exact ⟨p, o, rfl, by have := hg.size; omega, fun i x hx => (World.cell?_of_block (a := ⟨p, o + i, none⟩) he).trans (hc i x hx)⟩
  · obtain ⟨cs, hcs, _⟩ := key q hq
    exact ⟨cs, hcs⟩

structure TI (w0 wr wi : World) (b : Nat) (tool long : Int) (v : Value) (l : List Int) (i : Nat) : Prop where
  strm : Strm w0.heap.size wi b
  below : Below w0.heap.size w0 wi
  size : wr.heap.size < wi.heap.size
  old : ∀ j, j < wr.heap.size → j ≠ b → wi.heap[j]? = wr.heap[j]?
  blk : Blk wi wr.heap.size 53 #[.int .i64 tool, .int .i64 long, v]
  own : wi.ownsRow (wr.heap.size + 1) 3 1 v l.length (l.map (Value.int .i64))
  lt : ∀ x ∈ l, 0 ≤ x ∧ x < i
  inc : ∀ (j : Nat) (x y : Int), l[j]? = some x → l[j + 1]? = some y → x < y

theorem TI.start {w0 wr : World} {b : Nat} {tool long : Int} (hs : Strm w0.heap.size wr b) (hb : Below w0.heap.size w0 wr) : TI w0 wr (wr.alloc (.cells #[.int .i64 tool, .int .i64 long, .slice none 0 0] 53)) b tool long (.slice none 0 0) [] 0 :=
  ⟨hs.alloc _, hb.alloc hb.size _, by simp, fun j hj _ => Below.heap_alloc wr _ j hj, Blk.new _ _ _, World.ownsRow_nil _ _ _ _, by simp, by simp⟩
theorem TI.next {w0 wr wi w' : World} {b : Nat} {tool long : Int} {v : Value} {l : List Int} {i : Nat} (h : TI w0 wr wi b tool long v l i) (hs : Strm w0.heap.size w' b) (hg : wi.grownBy w' (some b)) : TI w0 wr w' b tool long v l i := by
  obtain ⟨u, hu⟩ := h.strm.blk
  have hne : wr.heap.size ≠ b := Blk.ne_ h.blk hu (by decide)
  refine ⟨hs, h.below.grown hg h.below.size (fun k hk => by cases hk; exact h.strm.1), Nat.lt_of_lt_of_le h.size hg.size, fun j hj h2 => ?_, h.blk.grown hg (by simpa using hne), h.own.kept hg (.inr (h.strm.own_ne h.own)), h.lt, h.inc⟩
  rw [hg.block j (Nat.lt_trans hj h.size) (by simpa using h2), h.old j hj h2]
theorem TI.skip {w0 wr wi : World} {b : Nat} {tool long : Int} {v : Value} {l : List Int} {i : Nat} (h : TI w0 wr wi b tool long v l i) : TI w0 wr wi b tool long v l (i + 1) :=
  ⟨h.strm, h.below, h.size, h.old, h.blk, h.own, fun x hx => by have := h.lt x hx; omega, h.inc⟩
theorem TI.alloc {w0 wr wi : World} {b : Nat} {tool long : Int} {v : Value} {l : List Int} {i : Nat} (h : TI w0 wr wi b tool long v l i) (o : Obj) : TI w0 wr (wi.alloc o) b tool long v l i :=
  ⟨h.strm.alloc o, h.below.alloc h.below.size o, by simp; have := h.size; omega, fun j hj h2 => (Below.heap_alloc wi o j (Nat.lt_trans hj h.size)).trans (h.old j hj h2), h.blk.alloc o, h.own.alloc o, h.lt, h.inc⟩
theorem TI.cells {w0 wr wi : World} {b : Nat} {tool long : Int} {v : Value} {l : List Int} {i : Nat} (h : TI w0 wr wi b tool long v l i) : wi.cell? ⟨wr.heap.size, 0, none⟩ = some (.int .i64 tool) ∧ wi.cell? ⟨wr.heap.size, 1, none⟩ = some (.int .i64 long) ∧ wi.cell? ⟨wr.heap.size, 2, none⟩ = some v ∧ wi.frozen? ⟨wr.heap.size, 2, none⟩ = false :=
  ⟨h.blk.cell 0, h.blk.cell 1, h.blk.cell 2, h.blk.frozen 2⟩
theorem TI.append {w0 wr wi w' : World} {b : Nat} {tool long : Int} {v v' : Value} {l : List Int} {i : Nat} (hb0 : b < wr.heap.size) (hw0 : w0.heap.size ≤ wr.heap.size) (h : TI w0 wr wi b tool long v l i)
    (ho : w'.ownsRow (wr.heap.size + 1) 3 1 v' (l.length + 1) (l.map (Value.int .i64) ++ [.int .i64 (i : Int)])) (hg : wi.grownBy w' v.ownBlock) :
    w'.cell? ⟨wr.heap.size, 2, none⟩ = some v ∧ w'.frozen? ⟨wr.heap.size, 2, none⟩ = false ∧ TI w0 wr (w'.setCell ⟨wr.heap.size, 2, none⟩ v') b tool long v' (l ++ [(i : Int)]) (i + 1) := by
  have hlt := fun q hq => (h.own.lt q hq).1
  obtain ⟨u, hu⟩ := h.strm.blk
  have hne : wr.heap.size ≠ b := Blk.ne_ h.blk hu (by decide)
  have hs : Strm w0.heap.size w' b := h.strm.grown hg (fun q hq => by have := hlt q hq; omega) (fun e => by have := hlt b e.symm; omega)
  have hB : Blk w' wr.heap.size 53 #[.int .i64 tool, .int .i64 long, v] := h.blk.grown hg (fun e => by have := hlt _ e.symm; omega)
  have hgr : w'.grownBy (w'.setCell ⟨wr.heap.size, 2, none⟩ v') (some wr.heap.size) := ⟨rfl, rfl, rfl, by simp [World.setCell], fun q _ hq => Below.heap_setCell w' ⟨wr.heap.size, 2, none⟩ v' q (by simpa using hq)⟩
  refine ⟨hB.cell 2, hB.frozen 2, hs.setCell (Ne.symm hne) hw0 _, (h.below.grown hg h.below.size (fun q hq => by have := hlt q hq; omega)).setCell hw0 _, ?_, fun j hj h2 => ?_, ?_, ?_, fun x hx => ?_, fun j x y hx hy => ?_⟩
  · simp [World.setCell]; exact Nat.lt_of_lt_of_le h.size hg.size
  · rw [Below.heap_setCell w' ⟨wr.heap.size, 2, none⟩ v' j (by show j ≠ wr.heap.size; omega), hg.block j (Nat.lt_trans hj h.size) (fun e => by have := hlt j e.symm; omega), h.old j hj h2]
  · simpa using hB.set_ 2 v'
  · have := ho.kept hgr (.inr (fun e => by have := (ho.lt _ e).1; omega))
    simpa using this
  · rcases List.mem_append.1 hx with hx | hx
    · have := h.lt x hx; omega
    · have : x = (i : Int) := by simpa using hx
      omega
  · by_cases hj : j + 1 < l.length
    · rw [List.getElem?_append_left (by omega)] at hx hy
      exact h.inc j x y hx hy
    · have hjl : j + 1 = l.length := by have := lt_of_at hy; simp at this; omega
      rw [List.getElem?_append_left (by omega)] at hx
      have hm := List.mem_of_getElem? hx
      have := h.lt x hm
      rw [hjl] at hy
      simp at hy
      omega
theorem own_same {w w' : World} {base : Nat} {e : TypeId} {size n : Nat} {v : Value} {xs : List Value} (h : w.ownsRow base e size v n xs) (he : ∀ g, v.ownBlock = some g → w'.heap[g]? = w.heap[g]?) : w'.ownsRow base e size v n xs := by
  refine ⟨h.1, ?_⟩
  rcases h.2 with hn | ⟨g, cap, cur, rfl, hbb, hg, rest⟩
  · exact .inl hn
  · exact .inr ⟨g, cap, cur, rfl, hbb, (he g rfl).trans hg, rest⟩

set_option maxHeartbeats 8000000 in
set_option maxRecDepth 100000 in
theorem mkTasks_ok (A0 : Option Addr) (n0 c0 : Nat) (z0 : List Int) (w : World) (h0 : IntArg w A0 n0 c0 z0) :
    Calls Try.prog 19 #[.slice A0 n0 c0] w fun e w' => ∃ v ts vs, e = .returned v ∧ TasksOk ts ∧ ts.length ≤ 9 ∧ (∀ t ∈ ts, t.tool < 3) ∧ w'.ownsRow w.heap.size 53 3 v ts.length vs ∧ TV w' ts vs ∧ Below w.heap.size w w' := by
  have S0 := Lib.hid h0.strm
  have B0 := Lib.hid ((Below.refl w.heap.size w).alloc (Nat.le_refl _) (.cells #[.slice A0 n0 c0] 27))
  clear h0
  obtain ⟨b, hb⟩ : ∃ b, b = w.heap.size := ⟨_, rfl⟩
  have Hb := Lib.hid hb
  have hbw := Nat.le_of_eq hb.symm
  clear hb
  obtain ⟨i0, hi, hz0, hz1, hz2⟩ := info_parts info_int
  obtain ⟨j0, ji, jz0, jz1, jz2⟩ := info_parts info_task
  go_enter Try.func19, Try.ntmps19
  go_wp2_with fail
  refine (next_any _ _ _ _ S0.out (by omega) (by omega)).mono ?_
  rintro e w1 ⟨r, rfl, hr0, hr1, hs1, hg1⟩
  have S1 := Lib.hid hs1
  have B1 := Lib.hid (B0.out.grown hg1 (by simp) (fun k hk => by cases hk; exact Nat.le_refl _))
  obtain ⟨r, rfl⟩ := Int.eq_ofNat_of_zero_le hr0
  clear hs1 hg1
  go_wp2_with fail
  rw [← Hb.out] at ⊢ S1
  go_loopw [4, 13] (fun v i wr => ∃ (k : Nat) (ts : List Task) (vs : List Value), k ≤ r ∧ i = .int .i64 k ∧ Hid (ts.length = k ∧ TasksOk ts ∧ ∀ t ∈ ts, t.tool < 3) ∧ wr.ownsRow w.heap.size 53 3 v k vs ∧ Hid (TV wr ts vs) ∧ Strm w.heap.size wr b ∧ Below w.heap.size w wr) (fun _ i _ => r - (intOf i).toNat)
  case atStart => exact ⟨0, [], [], by omega, rfl, ⟨rfl, ⟨by simp, by simp⟩, by simp⟩, World.ownsRow_nil _ _ _ _, ⟨rfl, by simp, by simp⟩, by rw [Hb.out] at S1 ⊢; exact S1.out, B1.out⟩
  case round =>
    obtain ⟨k, ts, vs, hk, rfl, hts, how, htv, hst, hbl⟩ := hrel
    have How := Lib.hid how
    have Hst := Lib.hid hst
    have Hbl := Lib.hid hbl
    clear how hst hbl
    by_cases hlt : k < r
    · go_wp2_with fail
      refine (next_any _ _ _ _ Hst.out (by omega) (by omega)).mono ?_
      rintro e w2 ⟨x1, rfl, x10, x11, hs2, hg2⟩
      have S2 := Lib.hid hs2
      have V2 := Lib.hid (htv.out.keep Hst.out hg2.size (fun j hj hne => hg2.block j hj (by simpa using hne)))
      have O2 := Lib.hid (own_same How.out (fun g hg => hg2.block g (How.out.lt g hg).2 (by
        obtain ⟨u, hu⟩ := Hst.out.blk
        have := own_blk_ne How.out hu (by decide)
        rw [hg] at this; exact this)))
      have B2 := Lib.hid (Hbl.out.grown hg2 Hbl.out.size (fun k hk => by cases hk; omega))
      clear hs2 hg2
      go_wp2_with fail
      refine (next_any _ _ _ _ S2.out (by omega) (by omega)).mono ?_
      rintro e w3 ⟨x2, rfl, x20, x21, hs3, hg3⟩
      have S3 := Lib.hid hs3
      have V3 := Lib.hid (V2.out.keep S2.out hg3.size (fun j hj hne => hg3.block j hj (by simpa using hne)))
      have O3 := Lib.hid (own_same O2.out (fun g hg => hg3.block g (O2.out.lt g hg).2 (by
        obtain ⟨u, hu⟩ := S2.out.blk
        have := own_blk_ne O2.out hu (by decide)
        rw [hg] at this; exact this)))
      have B3 := Lib.hid (B2.out.grown hg3 B2.out.size (fun k hk => by cases hk; omega))
      have hb3 := S3.out.lt
      clear hs3 hg3
      have T0 := Lib.hid (TI.start (tool := x1 - 1) (long := 1 + x2) S3.out B3.out)
      go_wp2_with fail
      clear S0 B0 S1 B1 S2 V2 O2 B2 How htv Hst Hbl
      obtain ⟨tl, htl⟩ : ∃ tl, tl = x1 - 1 := ⟨_, rfl⟩
      obtain ⟨lg, hlg⟩ : ∃ lg, lg = 1 + x2 := ⟨_, rfl⟩
      have htb : -1 ≤ tl ∧ tl < 3 ∧ 1 ≤ lg ∧ lg ≤ 20 := by omega
      obtain ⟨b1, b2, b3, b4⟩ := htb
      rw [← htl, ← hlg] at T0 ⊢
      clear htl hlg
      go_loopw [24] (fun i wr => ∃ (i' : Nat) (v : Value) (l : List Int), i' ≤ k ∧ i = .int .i64 i' ∧ TI w w3 wr b tl lg v l i') (fun i _ => k - (intOf i).toNat)
      case atStart => exact ⟨0, _, [], by omega, rfl, T0.out⟩
      case round =>
        clear T0
        obtain ⟨i, v, l, hik, rfl, hti⟩ := hrel
        have Hti := Lib.hid hti
        have hsz := hti.size
        have hll := inc_len hti.lt hti.inc
        clear hti
        by_cases hlt' : i < k
        · go_wp2_with fail
          refine (next_any _ _ _ _ Hti.out.strm (by omega) (by omega)).mono ?_
          rintro e w4 ⟨q, rfl, hq0, hq1, hs4, hg4⟩
          have H4 := Lib.hid (Hti.out.next hs4 hg4)
          clear hs4 hg4
          obtain ⟨c0', c1', c2', c3'⟩ := H4.out.cells
          by_cases hqz : q = 0
          · have hqq : (q == 0) = true := by simp [hqz]
            have H5 := Lib.hid (H4.out.alloc (.cells #[.int .i64 (i : Int)] 3))
            have Z5 : Hid (w3.heap.size + 1 ≤ (w4.alloc (.cells #[.int .i64 (i : Int)] 3)).heap.size) := by have := H4.out.size; unfold Hid; simp; omega
            have hw3 : w3.heap.size < w4.heap.size := H4.out.size
            clear hqz
            go_wp2_with (at_builtin; refine wpList_append_one _ rfl (.tmp 31) (.tmp 33) 22 rfl (w3.heap.size + 1) 3 i0 (.int .i64 0) 8 Try.underlying22 hi hz0 hz1 hz2 rfl v l.length _ rfl H5.out.own w4.heap.size (.int .i64 (i : Int)) rfl (World.cell?_alloc_at _ _ _ _ rfl) rfl (by unfold maxLen; omega) (by omega) Z5.out ?_; intro v6 w6 hown6 hg6; have X6 := Lib.hid (TI.append hb3 B3.out.size H5.out hown6 hg6); have hform := hown6.form (Nat.succ_pos _); clear hown6 hg6; obtain ⟨g6, cap6, hv6, _, _⟩ := hform; subst hv6; obtain ⟨d1, d2, d3⟩ := X6.out; have D3 := Lib.hid d3; clear d3)
            go_roundw
            case rel => exact ⟨i + 1, _, _, by omega, by go_num, D3.out⟩
            case measure => simp [intOf]; omega
          · have hqq : (q == 0) = false := by simp [hqz]
            clear hqz
            go_wp2_with fail
            go_roundw
            case rel => exact ⟨i + 1, v, l, by omega, by go_num, H4.out.skip⟩
            case measure => simp [intOf]; omega
        · have hik' : i = k := by omega
          subst hik'
          obtain ⟨c0', c1', c2', c3'⟩ := Hti.out.cells
          obtain ⟨Av, cv, hv⟩ := own_slice Hti.out.own
          subst hv
          have hri := Lib.hid (RI.own Hti.out.own)
          have hrb := Lib.hid (RB.own Hti.out.own)
          have O5 := Lib.hid (own_same O3.out (fun g hg => Hti.out.old g (O3.out.lt g hg).2 (fun e => by
            obtain ⟨u, hu⟩ := S3.out.blk
            have := own_blk_ne O3.out hu (by decide)
            rw [hg, e] at this; exact this rfl)))
          have V5 := Lib.hid (V3.out.keep S3.out (Nat.le_of_lt Hti.out.size) Hti.out.old)
          have B5 := Lib.hid Hti.out.below
          have S5 := Lib.hid Hti.out.strm
          have O6 := Lib.hid (O5.out.alloc (.cells #[.int .i64 tl, .int .i64 lg, .slice Av l.length cv] 53))
          have B6 := Lib.hid (B5.out.alloc B5.out.size (.cells #[.int .i64 tl, .int .i64 lg, .slice Av l.length cv] 53))
          have S6 := Lib.hid (S5.out.alloc (.cells #[.int .i64 tl, .int .i64 lg, .slice Av l.length cv] 53))
          have V6 := Lib.hid ((V5.out.snoc (t := ⟨tl, lg, l⟩) (c := cv) hri.out hrb.out).below ((Below.refl wr.heap.size wr).alloc (Nat.le_refl _) (.cells #[.int .i64 tl, .int .i64 lg, .slice Av l.length cv] 53)))
          have R6 := Lib.hid (Src.new (m := 1) (c := 1) (size := 3) (Blk.new wr 53 #[.int .i64 tl, .int .i64 lg, .slice Av l.length cv]) rfl)
          have Z6 := Lib.hid B6.out.size
          have N6 : Hid (∀ y ∈ (#[Value.int .i64 tl, .int .i64 lg, .slice Av l.length cv] : Array Value).toList, y.oneCell' = true) := by intro y hy; simp at hy; rcases hy with rfl | rfl | rfl <;> rfl
          go_wp2_with (at_builtin; refine wpList_append_src _ rfl (.tmp 37) (.tmp 39) 45 rfl w.heap.size 53 j0 _ 3 40 Try.underlying45 ji jz0 jz1 jz2 rfl (by decide) u4 i vs rfl O6.out 1 _ _ rfl R6.out N6.out (by unfold maxLen; omega) (by omega) Z6.out ?_; intro v7 w7 hown7 hg7; have X7 := Lib.hid hg7; have O7 := Lib.hid hown7; clear hown7 hg7)
          go_roundw
          case rel =>
            have hr7 := fun q hq => (O6.out.lt q hq).1
            refine ⟨i + 1, ts ++ [Task.mk tl lg l], _, by omega, by go_num, ⟨by simp [hts.out.1], ?_, fun t ht => ?_⟩, O7.out, V6.out.grown O6.out X7.out, S6.out.grown X7.out hr7 (fun e => ?_), B6.out.grown X7.out Z6.out hr7⟩
            · refine ⟨by have := hts.out.1; simp; omega, fun j t ht => ?_⟩
              by_cases hj : j < ts.length
              · rw [List.getElem?_append_left hj] at ht
                exact hts.out.2.1.2 j t ht
              · have hje : j = ts.length := by have := lt_of_at ht; simp at this; omega
                subst hje
                simp at ht
                subst ht
                have := hts.out.1
                exact ⟨b1, by dsimp only; omega, b3, b4, by dsimp only; omega, fun m x hm => by have := Hti.out.lt x (List.mem_of_getElem? hm); omega⟩
            · rcases List.mem_append.1 ht with ht | ht
              · exact hts.out.2.2 t ht
              · have : t = ⟨tl, lg, l⟩ := by simpa using ht
                subst this; exact b2
            · obtain ⟨u, hu⟩ := S6.out.blk
              exact own_blk_ne O6.out hu (by decide) e.symm
          case measure => simp [intOf]; omega
    · go_wp2_with fail
      go_ret
      exact ⟨_, ts, vs, rfl, hts.out.2.1, by have := hts.out.1; omega, hts.out.2.2, by rw [hts.out.1]; exact How.out, htv.out, Hbl.out⟩
end Go.Proofs.Ytnmngjikcimpnaa
