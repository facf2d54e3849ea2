/- The walk of tools.Book. -/
import Derived.Test.YtnmngjikcimpnaaFirst
import Derived.Test.YtnmngjikcimpnaaOwn
namespace Go.Proofs.Ytnmngjikcimpnaa
open Go.RowKit
set_option linter.unusedVariables false

theorem info_use : (Try.prog.info? 40).map (fun i => (i.zero, i.size, i.bytes)) = some (some (.agg #[.int .i64 0, .int .i64 0, .int .i64 0]), 3, 24) := by kernel_rfl

def Use.cells (u : Use) : List Value := [.int .i64 u.tool, .int .i64 u.from_, .int .i64 u.long]
def cellsOf (us : List Use) : List Value := us.flatMap Use.cells
theorem cellsOf_len (us : List Use) : (cellsOf us).length = us.length * 3 := by
  induction us with
  | nil => rfl
  | cons u us ih => simp only [cellsOf, List.flatMap_cons, List.length_append] at ih ⊢; rw [ih]; simp [Use.cells]; omega
theorem cellsOf_at {us : List Use} {j : Nat} {u : Use} (h : us[j]? = some u) : (cellsOf us)[j * 3]? = some (.int .i64 u.tool) ∧ (cellsOf us)[j * 3 + 1]? = some (.int .i64 u.from_) ∧ (cellsOf us)[j * 3 + 2]? = some (.int .i64 u.long) := by
  induction us generalizing j with
  | nil => simp at h
  | cons v us ih =>
    rcases j with _ | j
    · simp at h; subst h; simp [cellsOf, Use.cells]
    · simp at h
      obtain ⟨h1, h2, h3⟩ := ih h
      simp only [cellsOf, List.flatMap_cons] at h1 h2 h3 ⊢
      have e : (Use.cells v).length = 3 := rfl
      refine ⟨?_, ?_, ?_⟩
      · rw [List.getElem?_append_right (by rw [e]; omega), e, show (j + 1) * 3 - 3 = j * 3 by omega]; exact h1
      · rw [List.getElem?_append_right (by rw [e]; omega), e, show (j + 1) * 3 + 1 - 3 = j * 3 + 1 by omega]; exact h2
      · rw [List.getElem?_append_right (by rw [e]; omega), e, show (j + 1) * 3 + 2 - 3 = j * 3 + 2 by omega]; exact h3
theorem cellsOf_one (us : List Use) : ∀ u ∈ cellsOf us, u.oneCell' = true := by
  intro u hu
  obtain ⟨x, _, hx⟩ := List.mem_flatMap.1 hu
  simp [Use.cells] at hx
  rcases hx with rfl | rfl | rfl <;> rfl
theorem cellsOf_snoc (us : List Use) (u : Use) : cellsOf (us ++ [u]) = cellsOf us ++ u.cells := by simp [cellsOf]

/-- A slice value that reads as uses: nil, or somewhere. -/
def SU (w : World) (v : Value) (us : List Use) : Prop := ∃ A c, v = .slice A us.length c ∧ us.length ≤ c ∧ RU w A us ∧ (A = none → us = [] ∧ c = 0) ∧ ∀ a, A = some a → a.spot = none ∧ a.block < w.heap.size
theorem SU.below {w w' : World} {v : Value} {us : List Use} (h : SU w v us) (hb : Below w.heap.size w w') : SU w' v us := by
  obtain ⟨A, c, h1, h2, h3, h4, h5⟩ := h
  exact ⟨A, c, h1, h2, h3.below hb, h4, fun a ha => ⟨(h5 a ha).1, by have := (h5 a ha).2; have := hb.size; omega⟩⟩
theorem SU.src {w : World} {v : Value} {us : List Use} (h : SU w v us) : Src w v 3 us.length (cellsOf us) := by
  obtain ⟨A, c, rfl, h2, h3, h4, h5⟩ := h
  refine ⟨cellsOf_len us, ?_⟩
  rcases A with _ | ⟨b, o, sp⟩
  · obtain ⟨rfl, rfl⟩ := h4 rfl
    exact .inl ⟨rfl, rfl⟩
  · obtain ⟨rfl, _⟩ := h5 _ rfl
    refine .inr ⟨b, o, c, rfl, fun j x hx => ?_⟩
    have hj : j < us.length * 3 := by rw [← cellsOf_len]; exact lt_of_at hx
    obtain ⟨u, hu⟩ := some_at (l := us) (k := j / 3) (by omega)
    obtain ⟨b', o', he, _, hc⟩ := h3 (by omega)
    cases he
    obtain ⟨c1, c2, c3⟩ := hc _ u hu
    obtain ⟨d1, d2, d3⟩ := cellsOf_at hu
    have hm : j = j / 3 * 3 ∨ j = j / 3 * 3 + 1 ∨ j = j / 3 * 3 + 2 := by omega
    rcases hm with e | e | e
    · rw [e] at hx ⊢; rw [d1] at hx; cases hx; exact c1
    · rw [e] at hx ⊢; rw [d2] at hx; cases hx; rw [← Nat.add_assoc]; exact c2
    · rw [e] at hx ⊢; rw [d3] at hx; cases hx; rw [← Nat.add_assoc]; exact c3
theorem SU.own {w : World} {base : Nat} {v : Value} {us : List Use} {e : TypeId} (h : w.ownsRow base e 3 v us.length (cellsOf us)) : SU w v us := by
  have hf := h
  rcases h.2 with ⟨rfl, h0⟩ | ⟨g, cap, cur, rfl, hb, hg, hnc, hcm, hcs, htk⟩
  · have : us = [] := List.eq_nil_of_length_eq_zero h0
    subst this
    exact ⟨none, 0, rfl, by simp, fun h => absurd h (by simp), fun _ => ⟨rfl, rfl⟩, fun a ha => by cases ha⟩
  · have hB : Blk w g e cur := hg
    refine ⟨_, cap, rfl, hnc, fun hp => ⟨g, 0, rfl, hB.lt, fun j u hu => ?_⟩, fun h => (by cases h), fun a ha => (by cases ha; exact ⟨rfl, hB.lt⟩)⟩
    obtain ⟨d1, d2, d3⟩ := cellsOf_at hu
    have hc := hf.cells (g := g) rfl
    have e1 := hc _ _ d1
    have e2 := hc _ _ d2
    have e3 := hc _ _ d3
    rw [Addr.add_lit] at e1 e2 e3
    exact ⟨e1, by rw [Nat.add_assoc]; exact e2, by rw [Nat.add_assoc]; exact e3⟩
theorem SU.nil (w : World) : SU w (.slice none 0 0) [] := ⟨none, 0, rfl, by simp, fun h => absurd h (by simp), fun _ => ⟨rfl, rfl⟩, fun a ha => by cases ha⟩

set_option maxHeartbeats 2000000 in
set_option maxRecDepth 100000 in
theorem book_any (v : Value) (us : List Use) (u : Use) (w : World) (hs : SU w v us) (hg : Good us) :
    Calls Try.prog 14 #[v, .agg #[.int .i64 u.tool, .int .i64 u.from_, .int .i64 u.long]] w fun e w' => ∃ v' r, e = .returned (.tuple #[v', .int .i64 r]) ∧ (Good (us ++ [u]) ↔ r = 0) ∧ (r = 0 → SU w' v' (us ++ [u])) ∧ Below w.heap.size w w' := by
  have h60 := hg.1
  have HS := Lib.hid hs
  have HG := Lib.hid hg
  clear hs hg
  have hs2 := HS.out
  obtain ⟨A, c, rfl, hc, hR, _, _⟩ := hs2
  have B0 := Lib.hid ((Below.refl w.heap.size w).alloc (Nat.le_refl _) (.cells #[.int .i64 u.tool, .int .i64 u.from_, .int .i64 u.long] 40))
  have R0 := Lib.hid (hR.below B0.out)
  have S0 := Lib.hid (HS.out.below B0.out)
  have X0 := Lib.hid (Blk.new w 40 #[.int .i64 u.tool, .int .i64 u.from_, .int .i64 u.long])
  obtain ⟨i0, hi, hz0, hz1, hz2⟩ := info_parts info_use
  clear hR
  go_enter Try.func14, Try.ntmps14
  go_wp2_with fail
  refine (checkU_any _ _ _ us _ rfl hc (by unfold maxLen; omega) R0.out).mono ?_
  rintro e w1 ⟨r, rfl, hr, hb1⟩
  obtain rfl := hr.1 HG.out
  have B1 := Lib.hid (B0.out.trans (hb1.mono (by simp)))
  have S1 := Lib.hid (S0.out.below hb1)
  have X1 := Lib.hid (X0.out.below hb1 (by simp))
  have d0 := X1.out.cell 0
  have d1 := X1.out.cell 1
  have d2 := X1.out.cell 2
  have hs1 := B1.out.size
  have Hsb : Hid (∀ b, (Value.slice A us.length c).ownBlock = some b → b < w1.heap.size) := by
    intro b hb
    obtain ⟨A', c', he, _, _, _, h5⟩ := S1.out
    cases he
    rcases A with _ | a
    · cases hb
    · cases hb; exact (h5 a rfl).2
  have Hlt : w.heap.size < w1.heap.size := X1.out.lt
  clear hr hb1
  go_upto_region 4 with fail
  go_cut [7] (fun s7 wx => ∃ v' : Value, v' = s7 ∧ wx.ownsRow w1.heap.size 40 3 v' (us.length + 1) (cellsOf us ++ u.cells) ∧ Below w1.heap.size w1 wx)
  case first =>
    go_region_law (first
      | (refine step_append_src _ rfl (.tmp 14) (.tmp 15) 36 rfl w1.heap.size 40 i0 _ 3 24 Try.underlying36 hi hz0 hz1 hz2 rfl (by decide) _ 0 [] rfl ?_ us.length (cellsOf us) _ rfl ?_ (cellsOf_one us) (by unfold maxLen; omega) (by omega) ?_ ?_
         · first | exact lit_a w1 _ _ | exact lit_b w1 _ _ _ _ | exact lit_c w1 _ _ _ _
         · first | exact S1.out.src.below (lit_below_a w1 _ _) Hsb.out | exact S1.out.src.below (lit_below_b w1 _ _ _ _) Hsb.out
         · simp; try omega
         intro v2 w2 ho2 hg2
         have b2 : Below w1.heap.size w1 w2 := by
           first
             | refine (lit_below_a w1 _ _).grown hg2 ?_ ?_
             | refine (lit_below_b w1 _ _ _ _).grown hg2 ?_ ?_
           · simp; try omega
           · intro k hk
             cases hk
             first | exact Nat.le_refl _ | exact Nat.le_succ _
         have B2 := Lib.hid b2
         have X2 := Lib.hid (X1.out.below b2 Hlt)
         have e0 := X2.out.cell 0
         have e1 := X2.out.cell 1
         have e2 := X2.out.cell 2
         first
           | have U2 : Blk w2 w1.heap.size 40 #[.int .i64 u.tool, .int .i64 u.from_, .int .i64 u.long] := (lit_blk_c w1 _ _ _ _).grown hg2 (fun h => absurd (Option.some.inj h) (Nat.ne_of_lt (Nat.lt_succ_self _)))
           | have U2 : Blk w2 (w1.heap.size + 1) 40 #[.int .i64 u.tool, .int .i64 u.from_, .int .i64 u.long] := (lit_blk_b w1 _ _ _ _).grown hg2 (fun h => absurd (Option.some.inj h) (Nat.ne_of_gt (Nat.lt_succ_self _)))
           | skip
         have Ho2 := Lib.hid ho2
         have hs2 := b2.size
         clear ho2 hg2 b2)
      | (refine step_append_src _ rfl (.tmp 16) (.tmp 18) 36 rfl w1.heap.size 40 i0 _ 3 24 Try.underlying36 hi hz0 hz1 hz2 rfl (by decide) v2 (0 + us.length) ([] ++ cellsOf us) rfl ?_ 1 u.cells _ rfl ?_ ?_ (by unfold maxLen; omega) (by omega) ?_ ?_
         · first | exact Ho2.out | exact Ho2.out.alloc _
         · first
             | exact Src.new (cs := #[.int .i64 u.tool, .int .i64 u.from_, .int .i64 u.long]) (Blk.new _ _ _) rfl
             | exact Src.new (cs := #[.int .i64 u.tool, .int .i64 u.from_, .int .i64 u.long]) U2 rfl
         · intro y hy; simp [Use.cells] at hy; rcases hy with rfl | rfl | rfl <;> rfl
         · first | omega | (simp; omega)
         intro v3 w3 ho3 hg3
         have B3 : Hid (Below w1.heap.size w1 w3) := by
           first
             | refine B2.out.grown hg3 ?_ (fun k hk => (Ho2.out.lt k hk).1)
             | refine (B2.out.alloc ?_ _).grown hg3 ?_ (fun k hk => (Ho2.out.lt k hk).1)
           all_goals first | omega | (simp; omega)
         have Ho3 := Lib.hid ho3
         clear ho3 hg3))
    all_goals
      go_wp2_with fail
      go_meet
      exact ⟨v3, rfl, by simpa using Ho3.out, B3.out⟩
  case rest =>
    obtain ⟨v', rfl, ho, hb⟩ := hcut
    have Ho := Lib.hid ho
    have Hb := Lib.hid hb
    have hsu : SU wc v' (us ++ [u]) := SU.own (base := w1.heap.size) (e := 40) (by rw [cellsOf_snoc]; simpa using ho)
    have HSU := Lib.hid hsu
    obtain ⟨A', c', hv, hc', hR', _, _⟩ := hsu
    have HR' := Lib.hid hR'
    have hle : us.length + 1 ≤ c' := by simpa using hc'
    rw [show (us ++ [u]).length = us.length + 1 by simp] at hv
    subst hv
    clear ho hb hR' hc'
    clear d0 d1 d2
    go_wp2_with fail
    refine (checkU_any _ _ _ (us ++ [u]) _ (by simp) hle (by unfold maxLen; omega) HR'.out).mono ?_
    rintro e w4 ⟨r, rfl, hr, hb4⟩
    have B4 := Lib.hid (B1.out.trans ((Hb.out.trans (hb4.mono Hb.out.size)).mono hs1))
    have S4 := Lib.hid (HSU.out.below hb4)
    have Hr := Lib.hid hr
    clear hr hb4
    by_cases hz : r = 0
    · subst hz
      go_wp2_with fail
      go_ret2
      exact ⟨_, 0, rfl, by simpa using Hr.out, fun _ => S4.out, B4.out⟩
    · have hq : (r != 0) = true := by simp [hz]
      have Hz := Lib.hid hz
      clear hz
      go_wp2_with fail
      go_ret2
      exact ⟨_, r, rfl, Hr.out, fun h => absurd h Hz.out, B4.out⟩
end Go.Proofs.Ytnmngjikcimpnaa
