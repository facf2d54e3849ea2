/- The walk of fact.Of. -/
import Derived.Test.YtioofkhadjaldaaFactC
import Derived.Test.YtioofkhadjaldaaSortK
import Derived.Test.YtioofkhadjaldaaShelf
namespace Go.Proofs.Ytioofkhadjaldaa
open Go.RowKit Go.Sort
set_option linter.unusedVariables false
set_option maxRecDepth 100000

instance : Inhabited Fct := ⟨⟨0, 0, 0⟩⟩
/-- The order of facts. -/
def ltF (f g : Fct) : Prop := f.k < g.k ∨ f.k = g.k ∧ (f.a < g.a ∨ f.a = g.a ∧ f.b < g.b)
theorem cmpF_lt (f g : Fct) : cmpF f g < 0 ↔ ltF f g := by
  obtain ⟨a, b, c⟩ := f
  obtain ⟨x, y, z⟩ := g
  simp only [cmpF, cmpL, Lib.compareInt, ltF]
  split <;> split <;> (try split) <;> (try split) <;> (try split) <;> (try split) <;> (try split) <;> (try split) <;> (try split) <;> omega
theorem ltOf_F (f g : Fct) : ltOf cmpF f g = true ↔ ltF f g := by
  unfold ltOf
  rw [decide_eq_true_iff, cmpF_lt]
theorem ltOf_F' (f g : Fct) : ltOf cmpF f g = false ↔ ¬ ltF f g := by
  rw [← ltOf_F]; simp
theorem ltF_irr (f : Fct) : ¬ ltF f f := by unfold ltF; omega
theorem ltF_trans {f g h : Fct} (h1 : ltF f g) (h2 : ltF g h) : ltF f h := by unfold ltF at *; omega
theorem ltF_tri {f g : Fct} (h1 : ¬ ltF f g) (h2 : ¬ ltF g f) : f = g := by
  obtain ⟨a, b, c⟩ := f
  obtain ⟨x, y, z⟩ := g
  unfold ltF at *
  simp only [Fct.mk.injEq]
  simp only at h1 h2
  omega
theorem swoF : SWO (ltOf cmpF) where
  irrefl x := by rw [ltOf_F']; exact ltF_irr x
  trans x y z h1 h2 := by rw [ltOf_F] at *; exact ltF_trans h1 h2
  ntrans x y z h1 h2 := by rw [ltOf_F'] at *; unfold ltF at *; omega
theorem totF (x y : Fct) (h1 : ltOf cmpF x y = false) (h2 : ltOf cmpF y x = false) : x = y := by
  rw [ltOf_F'] at *; exact ltF_tri h1 h2

theorem sortF_any (base : Nat) (v : Value) (n : Nat) (fs : List Fct) (w : World) (ho : w.ownsRow base 66 3 v n (flat Fct.cells fs)) (hn : fs.length = n) (hm : n ≤ 100000) (hbase : base ≤ w.heap.size) :
    Calls Try.prog 63 #[v, .func (.func 64) #[] #[]] w fun e w' => e = .returned (.tuple #[]) ∧ ∃ gs : List Fct, gs.Pairwise (fun x y => ¬ ltF y x) ∧ (∀ f, f ∈ gs ↔ f ∈ fs) ∧ gs.length = n ∧ w'.ownsRow base 66 3 v n (flat Fct.cells gs) ∧ Below base w w' := by
  obtain ⟨A, c, rfl⟩ := own_slice ho
  rcases Nat.eq_zero_or_pos n with h0 | h0
  · subst h0
    refine (Try.slices_SortFunc_none (α := Fct) A c _ w).mono ?_
    rintro e w' ⟨rfl, rfl⟩
    exact ⟨rfl, fs, by rw [List.eq_nil_of_length_eq_zero hn]; exact List.Pairwise.nil, fun _ => Iff.rfl, hn, ho, Below.refl _ _⟩
  · obtain ⟨g, cap, hv, _, hlt⟩ := ho.form h0
    cases hv
    have eg : ∀ args w, (callFunc 64 args).run Try.prog w = .ok (.enter 64 args) w := enters_of Try.func64 (by kernel_rfl) rfl
    have hH := holdsK_own Fct.len ho hn
    have hcon := Try.slices_SortFunc_total 3 Try.isAgg66 Try.sizeOf66 Fct.cells Fct.len Fct.one cmpF swoF 64 #[] g 0 c fs.toArray w eg (fun _ _ _ _ x y => CompareF_any x y _) hH hlt (by simp; omega) totF
    simp only [List.size_toArray, hn] at hcon
    refine hcon.mono ?_
    rintro e w' ⟨rfl, m, os, rfl⟩
    have hp := List.mergeSort_perm fs (fun x y => !(ltOf cmpF) y x)
    have hs := List.pairwise_mergeSort (le := fun x y => !(ltOf cmpF) y x) (fun a b c h1 h2 => by
      simp only [Bool.not_eq_true'] at *
      exact swoF.ntrans c b a h2 h1) (fun a b => by
      cases h : ltOf cmpF b a
      · rfl
      · have := (ltOf_F b a).1 h
        have h2 : ltOf cmpF a b = false := by rw [ltOf_F']; intro h3; exact ltF_irr _ (ltF_trans this h3)
        simp [h2]) fs
    have hl : (fs.mergeSort (fun x y => !(ltOf cmpF) y x)).length = n := by rw [hp.length_eq, hn]
    obtain ⟨h1, h2⟩ := own_sorted Fct.len ho hn hl m os
    refine ⟨rfl, _, hs.imp ?_, fun f => hp.mem_iff, hl, h1, h2⟩
    intro x y hxy
    simpa [ltOf_F'] using hxy

theorem dd_sorted : ∀ gs : List Fct, gs.Pairwise (fun x y => ¬ ltF y x) → (dd gs).Pairwise ltF :=
  snoc_ind (fun _ => List.Pairwise.nil) fun l x ih h => by
    have h1 := List.pairwise_append.1 h
    rw [dd_snoc]
    split
    · exact ih h1.1
    · rename_i hne
      refine List.pairwise_append.2 ⟨ih h1.1, List.pairwise_singleton _ _, fun f hf y hy => ?_⟩
      rw [List.mem_singleton.1 hy]
      have hfl : f ∈ l := (dd_mem f l).1 hf
      have hfx : ¬ ltF x f := h1.2.2 f hfl x (by simp)
      by_cases hlt : ltF f x
      · exact hlt
      · have he : f = x := ltF_tri hlt hfx
        exfalso
        apply hne
        rw [dd_last]
        have hnil : l ≠ [] := by intro h; rw [h] at hfl; simp at hfl
        rw [List.getLast?_eq_some_getLast hnil]
        congr 1
        have hs := h1.1
        rw [← List.dropLast_concat_getLast hnil] at hs hfl
        have h2 := List.pairwise_append.1 hs
        rcases List.mem_append.1 hfl with h3 | h3
        · have h4 := h2.2.2 f h3 (l.getLast hnil) (by simp)
          rw [he] at h4
          exact ltF_tri h4 (h1.2.2 _ (List.getLast_mem hnil) x (by simp))
        · rw [← List.mem_singleton.1 h3, he]

/-- A set: sorted, each once; it holds just what meets p. -/
def SetF (rs : List Fct) (p : Fct → Prop) : Prop := rs.Pairwise ltF ∧ ∀ f, f ∈ rs ↔ p f
theorem SetF.eq {rs ss : List Fct} {p q : Fct → Prop} (h : SetF rs p) (k : SetF ss q) (e : ∀ f, p f ↔ q f) : rs = ss := by
  have n1 : rs.Nodup := List.Pairwise.imp (S := fun a b => a ≠ b) (fun {a b} h => fun e : a = b => ltF_irr a (by rw [← e] at h; exact h)) h.1
  have n2 : ss.Nodup := List.Pairwise.imp (S := fun a b => a ≠ b) (fun {a b} h => fun e : a = b => ltF_irr a (by rw [← e] at h; exact h)) k.1
  have hp : rs.Perm ss := (List.perm_ext_iff_of_nodup n1 n2).2 fun f => by rw [h.2, k.2, e]
  exact List.Perm.eq_of_pairwise (le := ltF) (fun a b _ _ h1 h2 => absurd (ltF_trans h1 h2) (ltF_irr a)) h.1 k.1 hp

theorem info_fact : (Try.prog.info? 66).map (fun i => (i.zero, i.size, i.bytes)) = some (some (.agg #[.int .i64 0, .int .i64 0, .int .i64 0]), 3, 24) := by kernel_rfl

set_option maxHeartbeats 4000000 in
theorem Of_any (A : Option Addr) (n c : Nat) (fs : List Fct) (w : World) (hR : RF w A fs) (hn : fs.length = n) (hm : n ≤ 1000) :
    Calls Try.prog 51 #[.slice A n c] w fun e w' => ∃ A' c' rs, e = .returned (.slice A' rs.length c') ∧ RF w' A' rs ∧ WfS A' rs.length c' ∧ SetF rs (fun f => f ∈ fs ∧ okF f) ∧ rs.length ≤ n ∧ Below w.heap.size w w' := by
  subst hn
  have R0 := Lib.hid hR
  clear hR
  obtain ⟨j0, ji, jz0, jz1, jz2⟩ := info_parts info_fact
  go_enter Try.func51, Try.ntmps51
  go_wp2_with fail
  go_loopw [3, 8] (fun vs i wr => ∃ (k : Nat) (v : Value) (m : Nat) (gs : List Fct), v = vs ∧ i = .int .i64 k ∧ k ≤ fs.length ∧ m ≤ k ∧ gs.length = m ∧ Hid (gs = (fs.take k).filter (fun f => decide (okF f))) ∧ Hid (wr.ownsRow w.heap.size 66 3 v m (flat Fct.cells gs)) ∧ Hid (Below w.heap.size w wr)) (fun _ i _ => fs.length - (intOf i).toNat)
  case atStart => exact ⟨0, _, 0, [], rfl, rfl, by omega, by omega, rfl, by simp [Hid], World.ownsRow_nil _ _ _ _, Below.refl _ _⟩
  case round =>
    obtain ⟨k, v, m, gs, rfl, rfl, hk, hmk, hgl, hG, Ol, Bl⟩ := hrel
    have Zl := Lib.hid Bl.out.size
    by_cases hlt : k < fs.length
    · obtain ⟨x, hx⟩ := some_at hlt
      obtain ⟨b, o, rfl, hb, c0, c1, c2⟩ := RF.at (R0.out.below Bl.out) hx
      have B3 := Lib.hid (Bl.out.alloc Zl.out (.cells #[.int .i64 x.k, .int .i64 x.a, .int .i64 x.b] 66))
      have X3 := Lib.hid (Blk.new wr 66 #[.int .i64 x.k, .int .i64 x.a, .int .i64 x.b])
      have O3 := Lib.hid (Ol.out.alloc (.cells #[.int .i64 x.k, .int .i64 x.a, .int .i64 x.b] 66))
      have Z3 := Lib.hid B3.out.size
      have Hx := Lib.hid hx
      have HGL := Lib.hid hgl
      clear hx hgl
      go_wp2_with fail
      refine (Valid_any x.k x.a x.b _).mono ?_
      rintro e w4 ⟨rfl, hb4⟩
      have B4 := Lib.hid (B3.out.trans (hb4.mono Z3.out))
      have X4 := Lib.hid (X3.out.below hb4 X3.out.lt)
      have O4 := Lib.hid (own_bel O3.out hb4)
      have Z4 := Lib.hid B4.out.size
      clear hb4
      by_cases hv : okF ⟨x.k, x.a, x.b⟩
      · have hG2 : Hid (gs ++ [x] = (fs.take (k + 1)).filter (fun f => decide (okF f))) := by
          unfold Hid
          rw [List.take_add_one, Hx.out, Option.toList_some, List.filter_append, ← hG.out]
          simp [show okF x from hv]
        simp only [hv, decide_true]
        have d0 := X4.out.cell 0
        have d1 := X4.out.cell 1
        have d2 := X4.out.cell 2
        have B5 := Lib.hid (B4.out.alloc Z4.out (.cells #[.int .i64 x.k, .int .i64 x.a, .int .i64 x.b] 66))
        have O5 := Lib.hid (O4.out.alloc (.cells #[.int .i64 x.k, .int .i64 x.a, .int .i64 x.b] 66))
        have S5 := Lib.hid (Src.new (m := 1) (c := 1) (size := 3) (Blk.new w4 66 #[.int .i64 x.k, .int .i64 x.a, .int .i64 x.b]) rfl)
        have Z5 := Lib.hid B5.out.size
        have N5 : Hid (∀ y ∈ (#[.int .i64 x.k, .int .i64 x.a, .int .i64 x.b] : Array Value).toList, y.oneCell' = true) := by intro y hy; simp at hy; rcases hy with rfl | rfl | rfl <;> rfl
        clear hv
        go_wp2_with (at_builtin; refine wpList_append_src _ rfl (.tmp 14) (.tmp 16) 58 rfl w.heap.size 66 j0 _ 3 24 Try.underlying58 ji jz0 jz1 jz2 rfl (by decide) _ m (flat Fct.cells gs) rfl O5.out 1 _ _ rfl S5.out N5.out (by unfold maxLen; omega) (by omega) Z5.out ?_; intro v7 w7 hown7 hg7; have B7 := Lib.hid (below_append B5.out O5.out hg7 Z5.out); have O7 := Lib.hid hown7; clear hown7 hg7)
        go_roundw
        case rel => exact ⟨k + 1, _, m + 1, gs ++ [x], rfl, by go_num, hlt, by omega, by simp [HGL.out], hG2, by rw [Hid, flat_append, flat_one]; exact O7.out, B7⟩
        case measure => simp [intOf]; omega
      · have hG2 : Hid (gs = (fs.take (k + 1)).filter (fun f => decide (okF f))) := by
          unfold Hid
          rw [List.take_add_one, Hx.out, Option.toList_some, List.filter_append, ← hG.out]
          simp [show ¬ okF x from hv]
        simp only [hv, decide_false]
        clear hv
        go_wp2_with fail
        go_roundw
        case rel => exact ⟨k + 1, _, m, gs, rfl, by go_num, hlt, by omega, HGL.out, hG2, O4, B4⟩
        case measure => simp [intOf]; omega
    · have hkn : k = fs.length := by omega
      have HGL := Lib.hid hgl
      have hG2 : Hid (gs = fs.filter (fun f => decide (okF f))) := by
        have := hG.out
        rw [hkn, List.take_length] at this
        exact this
      clear hgl
      go_wp2_with fail
      refine (sortF_any w.heap.size v m gs _ Ol.out HGL.out (by omega) Zl.out).mono ?_
      rintro e w4 ⟨rfl, hs, hp, hmem, hl, ho, hb4⟩
      have O4 := Lib.hid ho
      have B4 := Lib.hid (Bl.out.trans hb4)
      have P4 := Lib.hid hp
      have M4 := Lib.hid hmem
      have L4 := Lib.hid hl
      clear ho hb4 hp hmem hl
      go_wp2_with fail
      refine (compactF_any w.heap.size v m hs _ O4.out L4.out (by omega)).mono ?_
      rintro e w5 ⟨A5, c5, rfl, hr5, hw5, hb5⟩
      have R5 := Lib.hid hr5
      have B5 := Lib.hid (B4.out.trans hb5)
      clear hr5 hb5
      go_wp2_with fail
      go_ret
      refine ⟨A5, c5, dd hs, rfl, R5.out, hw5, ⟨dd_sorted hs P4.out, fun f => ?_⟩, ?_, B5.out⟩
      · rw [dd_mem, M4.out, hG2.out, List.mem_filter]
        simp
      · have := dd_len hs
        have := L4.out
        omega
end Go.Proofs.Ytioofkhadjaldaa
