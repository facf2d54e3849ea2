/- The walk of gantkeep4.belongs. -/
import Derived.Test.YtnmngjikcimpnaaOrdB
namespace Go.Proofs.Ytnmngjikcimpnaa
open Go.RowKit
set_option linter.unusedVariables false

/-- Steps up to k have what comes before them; the others have nothing yet. -/
structure Outs (w0 wr : World) (b g r k : Nat) (xss : List (List Int)) : Prop where
  len : xss.length = r
  val : Valid xss
  rest : ∀ (j : Nat) (l : List Int), k ≤ j → xss[j]? = some l → l = []
  strm : Strm w0.heap.size wr b
  gle : w0.heap.size ≤ g
  below : Below w0.heap.size w0 wr
  cells : ∃ cs : Array Value, Blk wr g 22 cs ∧ cs.size = r ∧ ∀ (j : Nat) (l : List Int), xss[j]? = some l → ∃ Aj cj, cs[j]? = some (.slice Aj l.length cj) ∧ RI wr Aj l ∧ (k ≤ j → Aj = none ∧ cj = 0)

structure Inn (w0 wo wi : World) (b g r k i : Nat) (cs : Array Value) (v : Value) (l : List Int) : Prop where
  strm : Strm w0.heap.size wi b
  below : Below w0.heap.size w0 wi
  size : wo.heap.size ≤ wi.heap.size
  old : ∀ j, j < wo.heap.size → j ≠ g → j ≠ b → wi.heap[j]? = wo.heap[j]?
  blk : Blk wi g 22 (cs.setIfInBounds k v)
  own : wi.ownsRow wo.heap.size 3 1 v l.length (l.map (Value.int .i64))
  lt : ∀ x ∈ l, 0 ≤ x ∧ x < i
  inc : ∀ (j : Nat) (x y : Int), l[j]? = some x → l[j + 1]? = some y → x < y

theorem Outs.lts {w0 wr : World} {b g r k : Nat} {xss : List (List Int)} (h : Outs w0 wr b g r k xss) : g < wr.heap.size := by
  obtain ⟨cs, hB, _⟩ := h.cells
  exact hB.lt

theorem inn_start {w0 wo : World} {b g r k : Nat} {xss : List (List Int)} (h : Outs w0 wo b g r k xss) (hk : k < r) :
    ∃ cs : Array Value, Hid (Blk wo g 22 cs ∧ cs.size = r ∧ ∀ (j : Nat) (l : List Int), xss[j]? = some l → ∃ Aj cj, cs[j]? = some (.slice Aj l.length cj) ∧ RI wo Aj l ∧ (k ≤ j → Aj = none ∧ cj = 0)) ∧
      Inn w0 wo wo b g r k 0 cs (.slice none 0 0) [] := by
  obtain ⟨cs, hB, hs, hc⟩ := h.cells
  refine ⟨cs, ⟨hB, hs, hc⟩, h.strm, h.below, Nat.le_refl _, fun _ _ _ _ => rfl, ?_, World.ownsRow_nil _ _ _ _, by simp, by simp⟩
  obtain ⟨l, hl⟩ := some_at (l := xss) (k := k) (by rw [h.len]; exact hk)
  obtain ⟨Aj, cj, h1, _, h2⟩ := hc k l hl
  obtain ⟨rfl, rfl⟩ := h2 (Nat.le_refl _)
  have := h.rest k l (Nat.le_refl _) hl
  subst this
  have e : cs.setIfInBounds k (.slice none 0 0) = cs := by
    apply Array.ext_getElem?
    intro j
    rw [Array.getElem?_setIfInBounds]
    split
    · rename_i e; subst e; rw [if_pos (by omega), h1]; rfl
    · rfl
  rw [e]; exact hB

theorem Inn.next {w0 wo wi w' : World} {b g r k i : Nat} {cs : Array Value} {v : Value} {l : List Int} (h : Inn w0 wo wi b g r k i cs v l) (hs : Strm w0.heap.size w' b) (hg : wi.grownBy w' (some b)) : Inn w0 wo w' b g r k i cs v l := by
  obtain ⟨u, hu⟩ := h.strm.blk
  have hne : g ≠ b := Blk.ne_ h.blk hu (by decide)
  refine ⟨hs, h.below.grown hg h.below.size (fun k hk => by cases hk; exact h.strm.1), Nat.le_trans h.size hg.size, fun j hj h1 h2 => ?_, h.blk.grown hg (by simpa using hne), h.own.kept hg (.inr (h.strm.own_ne h.own)), h.lt, h.inc⟩
  rw [hg.block j (Nat.lt_of_lt_of_le hj h.size) (by simpa using h2), h.old j hj h1 h2]

theorem Inn.skip {w0 wo wi : World} {b g r k i : Nat} {cs : Array Value} {v : Value} {l : List Int} (h : Inn w0 wo wi b g r k i cs v l) : Inn w0 wo wi b g r k (i + 1) cs v l :=
  ⟨h.strm, h.below, h.size, h.old, h.blk, h.own, fun x hx => by have := h.lt x hx; omega, h.inc⟩

theorem Inn.alloc {w0 wo wi : World} {b g r k i : Nat} {cs : Array Value} {v : Value} {l : List Int} (h : Inn w0 wo wi b g r k i cs v l) (o : Obj) : Inn w0 wo (wi.alloc o) b g r k i cs v l :=
  ⟨h.strm.alloc o, h.below.alloc h.below.size o, by simp; have := h.size; omega, fun j hj h1 h2 => (Below.heap_alloc wi o j (Nat.lt_of_lt_of_le hj h.size)).trans (h.old j hj h1 h2), h.blk.alloc o, h.own.alloc o, h.lt, h.inc⟩

theorem Inn.append {w0 wo wi w' : World} {b g r k i : Nat} {cs : Array Value} {v v' : Value} {l : List Int} (hwo : w0.heap.size ≤ wo.heap.size) (hbo : b < wo.heap.size) (hgo : g < wo.heap.size) (hg0 : w0.heap.size ≤ g) (h : Inn w0 wo wi b g r k i cs v l)
    (ho : w'.ownsRow wo.heap.size 3 1 v' (l.length + 1) (l.map (Value.int .i64) ++ [.int .i64 (i : Int)])) (hg : wi.grownBy w' v.ownBlock) :
    Inn w0 wo (w'.setCell ⟨g, k, none⟩ v') b g r k (i + 1) cs v' (l ++ [(i : Int)]) := by
  have hlt := fun q hq => (h.own.lt q hq).1
  obtain ⟨u, hu⟩ := h.strm.blk
  have hne : g ≠ b := Blk.ne_ h.blk hu (by decide)
  have hs : Strm w0.heap.size w' b := h.strm.grown hg (fun q hq => Nat.le_trans hwo (hlt q hq)) (fun e => by have := hlt b e.symm; omega)
  have hB : Blk w' g 22 (cs.setIfInBounds k v) := h.blk.grown hg (fun e => by have := hlt g e.symm; omega)
  have hgr : w'.grownBy (w'.setCell ⟨g, k, none⟩ v') (some g) := ⟨rfl, rfl, rfl, by simp [World.setCell], fun q _ hq => Below.heap_setCell w' ⟨g, k, none⟩ v' q (by simpa using hq)⟩
  refine ⟨hs.setCell (Ne.symm hne) hg0 _, (h.below.grown hg h.below.size (fun q hq => Nat.le_trans hwo (hlt q hq))).setCell hg0 _, ?_, fun j hj h1 h2 => ?_, ?_, ?_, fun x hx => ?_, fun j x y hx hy => ?_⟩
  · simp [World.setCell]; exact Nat.le_trans h.size hg.size
  · rw [Below.heap_setCell w' ⟨g, k, none⟩ v' j h1, hg.block j (Nat.lt_of_lt_of_le hj h.size) (fun e => by have := hlt j e.symm; omega), h.old j hj h1 h2]
  · have := hB.set_ k v'
    rwa [Array.setIfInBounds_setIfInBounds] at this
  · have := ho.kept hgr (.inr (own_blk_ne ho hB (by decide)))
    simpa using this
  · rcases List.mem_append.1 hx with hx | hx
    · have := h.lt x hx; omega
    · have : x = (i : Int) := by simpa using hx
      omega
  · by_cases hj : j + 1 < l.length
    · rw [List.getElem?_append_left (by omega)] at hx hy
      exact h.inc j x y hx hy
    · have hjl : j + 1 = l.length := by have := lt_of_at hy; simp at this; omega
      rw [List.getElem?_append_left (by omega)] at hx
      have hm := List.mem_of_getElem? hx
      have := h.lt x hm
      rw [hjl] at hy
      simp at hy
      omega

theorem inc_len {l : List Int} {i : Nat} (h1 : ∀ x ∈ l, 0 ≤ x ∧ x < i) (h2 : ∀ (j : Nat) (x y : Int), l[j]? = some x → l[j + 1]? = some y → x < y) : l.length ≤ i := by
  have : ∀ (j : Nat) (x : Int), l[j]? = some x → (j : Int) ≤ x := by
    intro j
    induction j with
    | zero => intro x hx; have := (h1 x (List.mem_of_getElem? hx)).1; omega
    | succ j ih =>
      intro x hx
      obtain ⟨y, hy⟩ := some_at (l := l) (k := j) (by have := lt_of_at hx; omega)
      have := ih y hy
      have := h2 j y x hy hx
      omega
  rcases Nat.lt_or_ge i l.length with hlt | hge
  · obtain ⟨x, hx⟩ := some_at hlt
    have a := this i x hx; have b := (h1 x (List.mem_of_getElem? hx)).2; omega
  · exact hge

theorem Inn.cell {w0 wo wi : World} {b g r k i : Nat} {cs : Array Value} {v : Value} {l : List Int} (h : Inn w0 wo wi b g r k i cs v l) (hk : k < cs.size) : wi.cell? ⟨g, k, none⟩ = some v ∧ wi.frozen? ⟨g, k, none⟩ = false := by
  refine ⟨?_, h.blk.frozen k⟩
  rw [h.blk.cell]
  simp [hk]
theorem Inn.cell' {w0 wo wi w' : World} {b g r k i : Nat} {cs : Array Value} {v : Value} {l : List Int} (h : Inn w0 wo wi b g r k i cs v l) (hk : k < cs.size) (hg : wi.grownBy w' v.ownBlock) (hgo : g < wo.heap.size) : w'.cell? ⟨g, k, none⟩ = some v ∧ w'.frozen? ⟨g, k, none⟩ = false := by
  have hB := h.blk.grown hg (fun e => by have := (h.own.lt g e.symm).1; omega)
  refine ⟨?_, hB.frozen k⟩
  rw [hB.cell]
  simp [hk]

theorem inn_end {w0 wo wi : World} {b g r k : Nat} {cs : Array Value} {v : Value} {l : List Int} {xss : List (List Int)} (hO : Outs w0 wo b g r k xss) (hk : k < r)
    (hC : Blk wo g 22 cs ∧ cs.size = r ∧ ∀ (j : Nat) (l : List Int), xss[j]? = some l → ∃ Aj cj, cs[j]? = some (.slice Aj l.length cj) ∧ RI wo Aj l ∧ (k ≤ j → Aj = none ∧ cj = 0))
    (h : Inn w0 wo wi b g r k k cs v l) : Outs w0 wi b g r (k + 1) (xss.set k l) := by
  obtain ⟨c1, c2, c3⟩ := hC
  have hl := hO.len
  obtain ⟨u, hu⟩ := hO.strm.blk
  have hri : ∀ {A : Option Addr} {l : List Int}, RI wo A l → RI wi A l := fun hr => hr.keep h.size fun p q x hp hc => by
    have e1 : p ≠ g := by
      rintro rfl
      rw [c1.cell] at hc
      obtain ⟨lq, hlq⟩ := some_at (l := xss) (k := q) (by rw [hl, ← c2]; exact (Array.getElem?_eq_some_iff.1 hc).1)
      obtain ⟨Aj, cj, h1, _⟩ := c3 q lq hlq
      rw [h1] at hc; cases hc
    have e2 : p ≠ b := by
      rintro rfl
      obtain ⟨_, A, c, xs, hB, _⟩ := hO.strm
      rw [hB.cell] at hc
      rcases q with _ | q <;> simp at hc
    exact (World.cell?_of_block (w := wo) (a := ⟨p, q, none⟩) (h.old p hp e1 e2)).trans hc
  have hlv : Valid (xss.set k l) := by
    refine ⟨by simpa using hO.val.1, fun j l' hj => ?_⟩
    by_cases e : k = j
    · subst e
      rw [List.getElem?_set_self (by omega)] at hj
      cases hj
      exact ⟨fun i x hi => h.lt x (List.mem_of_getElem? hi), h.inc⟩
    · rw [List.getElem?_set_ne e] at hj
      exact hO.val.2 j l' hj
  refine ⟨by simpa using hl, hlv, fun j l' hj hl' => ?_, h.strm, hO.gle, h.below, _, h.blk, by simpa using c2, fun j l' hj => ?_⟩
  · rw [List.getElem?_set_ne (by omega)] at hl'
    exact hO.rest j l' (by omega) hl'
  · by_cases e : k = j
    · subst e
      rw [List.getElem?_set_self (by omega)] at hj
      cases hj
      have hsl : ∃ Aj cj, v = .slice Aj l.length cj := by
        rcases h.own.2 with ⟨h1, h2⟩ | ⟨g', cap, cur, h1, _⟩
        · rw [h2]; exact ⟨_, _, h1⟩
        · exact ⟨_, _, h1⟩
      obtain ⟨Aj, cj, rfl⟩ := hsl
      exact ⟨Aj, cj, by simp [c2, hk], RI.own h.own, fun h => absurd h (by omega)⟩
    · rw [List.getElem?_set_ne e] at hj
      obtain ⟨Aj, cj, h1, h2, h3⟩ := c3 j l' hj
      exact ⟨Aj, cj, by rw [Array.getElem?_setIfInBounds, if_neg e]; exact h1, hri h2, fun h => h3 (by omega)⟩

theorem outs_start {w0 w1 : World} {b r : Nat} (hs : Strm w0.heap.size w1 b) (hb : Below w0.heap.size w0 w1) (hr : r ≤ 40) :
    Outs w0 (w1.alloc (.cells (madeCells #[.slice none 0 0] r) 22)) b w1.heap.size r 0 (List.replicate r []) := by
  refine ⟨by simp, ⟨by simpa using hr, fun k l hk => ?_⟩, fun j l hj hl => ?_, hs.alloc _, hb.size, hb.alloc hb.size _, _, Blk.new _ _ _, size_madeCells _ _, fun j l hl => ?_⟩
  · have := List.mem_of_getElem? hk
    obtain rfl : l = [] := by simpa using (List.mem_replicate.1 this).2
    simp
  · exact (List.mem_replicate.1 (List.mem_of_getElem? hl)).2
  · obtain rfl : l = [] := (List.mem_replicate.1 (List.mem_of_getElem? hl)).2
    have hj := lt_of_at hl
    simp at hj
    exact ⟨none, 0, by simp [madeCells, hj, Nat.mod_one], RI.nil _ _, fun _ => ⟨rfl, rfl⟩⟩

theorem info_ints : (Try.prog.info? 22).map (fun i => (i.zero, i.size, i.bytes)) = some (some (.slice none 0 0), 1, 24) := by kernel_rfl

set_option maxHeartbeats 1000000 in
set_option maxRecDepth 100000 in
theorem belongs_ok (A : Option Addr) (n c : Nat) (xs : List Int) (w : World) (ha : IntArg w A n c xs) :
    Calls Try.prog 8 #[.slice A n c] w fun e w' => ∃ A' c' xss, e = .returned (.slice A' xss.length c') ∧ Valid xss ∧ xss.length ≤ 8 ∧ RII w' A' xss ∧ Below w.heap.size w w' := by
  have hst := Lib.hid ha.strm
  have hbel := Lib.hid ((Below.refl w.heap.size w).alloc (Nat.le_refl _) (.cells #[.slice A n c] 27))
  clear ha
  go_enter Try.func8, Try.ntmps8
  go_wp2_with (go_at_call 9; refine (next_any _ _ _ _ hst.out (by omega) (by omega)).mono ?_; rintro e w1 ⟨r, rfl, hr0, hr1, hs1, hg1⟩; have Hs1 := Lib.hid hs1; have Hb1 := Lib.hid (hbel.out.grown hg1 (by simp) (fun k hk => by cases hk; exact Nat.le_refl _)); clear hs1 hg1; obtain ⟨r, rfl⟩ := Int.eq_ofNat_of_zero_le hr0; have hmk := run_make_row' (P := Try.prog) 23 22 (.slice none 0 0) 24 Try.underlying23 info_ints rfl .i64 .i64 r (by omega) (by omega))
  obtain ⟨g, hg⟩ : ∃ g, g = w1.heap.size := ⟨_, rfl⟩
  have O0 := Lib.hid (outs_start (r := r) Hs1.out Hb1.out (by omega))
  rw [← hg] at O0 ⊢
  clear hg hmk
  obtain ⟨i1, hi, hz0, hz1, hz2⟩ := info_parts info_int
  obtain ⟨b, hbb⟩ : ∃ b, b = w.heap.size := ⟨_, rfl⟩
  rw [← hbb] at ⊢ O0
  have hbb' : b ≤ w.heap.size := by omega
  have Hbb := Lib.hid hbb
  clear hst hbel hbb
  go_loopw [15] (fun i wr => ∃ (k : Nat) (xss : List (List Int)), k ≤ r ∧ i = .int .i64 k ∧ Outs w wr b g r k xss) (fun i _ => r - (intOf i).toNat)
  case atStart => exact ⟨0, _, by omega, rfl, O0.out⟩
  case round =>
    obtain ⟨k, xss, hk, rfl, hO⟩ := hrel
    have HO := Lib.hid hO
    clear hO O0
    by_cases hlt : k < r
    · obtain ⟨cs, hcs, hin⟩ := inn_start HO.out hlt
      have Hin := Lib.hid hin
      clear hin
      go_wp2_with fail
      obtain ⟨wo, hwo⟩ : ∃ wo : World, wo = wr := ⟨_, rfl⟩
      subst hwo
      have hglt := HO.out.lts
      have hblt := HO.out.strm.lt
      go_loopw [19] (fun i wr => ∃ (i' : Nat) (v : Value) (l : List Int), i' ≤ k ∧ i = .int .i64 i' ∧ Inn w wo wr b g r k i' cs v l) (fun i _ => k - (intOf i).toNat)
      case atStart => exact ⟨0, _, [], by omega, rfl, Hin.out⟩
      case round =>
        obtain ⟨i, v, l, hik, rfl, hin⟩ := hrel
        clear Hin
        have Hin := Lib.hid hin
        clear hin
        by_cases hlt' : i < k
        · have hcz : k < cs.size := by rw [hcs.out.2.1]; exact hlt
          go_wp2_with (first | (go_at_call 9; refine (next_any _ _ _ _ Hin.out.strm (by omega) (by omega)).mono ?_; rintro e w2 ⟨q, rfl, hq0, hq1, hs2, hg2⟩; have Hin2 := Lib.hid (Hin.out.next hs2 hg2); obtain ⟨c1, c2⟩ := Hin2.out.cell hcz; clear hs2 hg2) | (at_builtin; refine wpList_append_one _ rfl (.tmp 30) (.tmp 32) 22 rfl wo.heap.size 3 i1 (.int .i64 0) 8 Try.underlying22 hi hz0 hz1 hz2 rfl v l.length _ rfl (Hin2.out.own.alloc _) w2.heap.size (.int .i64 (i : Int)) rfl (World.cell?_alloc_at _ _ _ _ rfl) rfl ?_ ?_ ?_ ?_))
          · have := inc_len Hin2.out.lt Hin2.out.inc
            unfold maxLen; omega
          · have := inc_len Hin2.out.lt Hin2.out.inc
            omega
          · have := Hin2.out.size; simp; omega
          · intro v3 w3 ho hg
            have Hin3 := Lib.hid ((Hin2.out.alloc (.cells #[.int .i64 (i : Int)] 3)).append HO.out.below.size hblt hglt HO.out.gle ho hg)
            obtain ⟨c3, c4⟩ := (Hin2.out.alloc (.cells #[.int .i64 (i : Int)] 3)).cell' hcz hg hglt
            obtain ⟨g', cap, hv, _, _⟩ := ho.form (by omega)
            subst hv
            clear ho hg c1 c2
            go_wp2
            go_roundw
            case rel => exact ⟨i + 1, _, _, by omega, by go_num, Hin3.out⟩
            case measure => simp [intOf]; omega
          · go_roundw
            case rel => exact ⟨i + 1, v, l, by omega, by go_num, Hin2.out.skip⟩
            case measure => simp [intOf]; omega
        · have hik' : i = k := by omega
          subst hik'
          go_wp2
          go_roundw
          case rel => exact ⟨i + 1, _, by omega, by go_num, inn_end HO.out hlt hcs.out Hin.out⟩
          case measure => simp [intOf]; omega
    · have hkr : k = r := by omega
      go_wp2
      go_ret
      obtain ⟨cs, h1, h2, h3⟩ := HO.out.cells
      have hl := HO.out.len
      refine ⟨some ⟨g, 0, none⟩, r, xss, by rw [hl]; rfl, HO.out.val, by omega, fun _ => ⟨g, 0, rfl, h1.lt, fun j l hj => ?_⟩, HO.out.below⟩
      obtain ⟨Aj, cj, e1, e2, _⟩ := h3 j l hj
      exact ⟨Aj, cj, by rw [Nat.zero_add, h1.cell]; exact e1, e2⟩
end Go.Proofs.Ytnmngjikcimpnaa
