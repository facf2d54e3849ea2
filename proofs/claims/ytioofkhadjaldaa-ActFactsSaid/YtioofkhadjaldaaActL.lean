/- The walks of act.Compare and of SortFunc at steps. -/
import Derived.Test.YtioofkhadjaldaaActK
import Derived.Test.YtioofkhadjaldaaFactA
import Derived.Test.YtioofkhadjaldaaSortK
import Derived.Test.YtioofkhadjaldaaShelf
namespace Go.Proofs.Ytioofkhadjaldaa
open Go.RowKit Go.Sort
set_option linter.unusedVariables false
set_option maxRecDepth 100000

instance : Inhabited St := ⟨⟨0, 0, 0, 0, 0⟩⟩
def cmpS (s t : St) : Int := cmpL [s.kind, s.arm, s.part, s.slot, s.ticks] [t.kind, t.arm, t.part, t.slot, t.ticks]
/-- The order of steps. -/
def ltS (s t : St) : Prop := s.kind < t.kind ∨ s.kind = t.kind ∧ (s.arm < t.arm ∨ s.arm = t.arm ∧ (s.part < t.part ∨ s.part = t.part ∧ (s.slot < t.slot ∨ s.slot = t.slot ∧ s.ticks < t.ticks)))
theorem cmpS_lt (s t : St) : cmpS s t < 0 ↔ ltS s t := by
  obtain ⟨a, b, c, d, e⟩ := s
  obtain ⟨a', b', c', d', e'⟩ := t
  simp only [cmpS, cmpL, Lib.compareInt, ltS]
  by_cases h1 : a = a'
  · subst h1
    by_cases h2 : b = b'
    · subst h2
      by_cases h3 : c = c'
      · subst h3
        by_cases h4 : d = d'
        · subst h4
          by_cases h5 : e = e'
          · subst h5; simp
          · rcases Int.lt_or_gt_of_ne h5 with h | h <;> simp [h, h5] <;> omega
        · rcases Int.lt_or_gt_of_ne h4 with h | h <;> simp [h, h4] <;> omega
      · rcases Int.lt_or_gt_of_ne h3 with h | h <;> simp [h, h3] <;> omega
    · rcases Int.lt_or_gt_of_ne h2 with h | h <;> simp [h, h2] <;> omega
  · rcases Int.lt_or_gt_of_ne h1 with h | h <;> simp [h, h1] <;> omega
theorem ltOf_S (s t : St) : ltOf cmpS s t = true ↔ ltS s t := by
  unfold ltOf
  rw [decide_eq_true_iff, cmpS_lt]
theorem ltOf_S' (s t : St) : ltOf cmpS s t = false ↔ ¬ ltS s t := by
  rw [← ltOf_S]; simp
theorem ltS_irr (s : St) : ¬ ltS s s := by unfold ltS; omega
theorem ltS_trans {f g h : St} (h1 : ltS f g) (h2 : ltS g h) : ltS f h := by unfold ltS at *; omega
theorem ltS_tri {f g : St} (h1 : ¬ ltS f g) (h2 : ¬ ltS g f) : f = g := by
  obtain ⟨a, b, c, d, e⟩ := f
  obtain ⟨x, y, z, u, v⟩ := g
  unfold ltS at *
  simp only [St.mk.injEq]
  simp only at h1 h2
  omega
theorem swoS : SWO (ltOf cmpS) where
  irrefl x := by rw [ltOf_S']; exact ltS_irr x
  trans x y z h1 h2 := by rw [ltOf_S] at *; exact ltS_trans h1 h2
  ntrans x y z h1 h2 := by rw [ltOf_S'] at *; unfold ltS at *; omega
theorem totS (x y : St) (h1 : ltOf cmpS x y = false) (h2 : ltOf cmpS y x = false) : x = y := by
  rw [ltOf_S'] at *; exact ltS_tri h1 h2

set_option maxHeartbeats 2000000 in
theorem CompareS_any (s t : St) (w : World) :
    Calls Try.prog 20 #[.agg #[.int .i64 s.kind, .int .i64 s.arm, .int .i64 s.part, .int .i64 s.slot, .int .i64 s.ticks], .agg #[.int .i64 t.kind, .int .i64 t.arm, .int .i64 t.part, .int .i64 t.slot, .int .i64 t.ticks]] w fun e w' => e = .returned (.int .i64 (cmpS s t)) ∧ ∃ q os, w' = grow (w.drewN q) os := by
  have X3 := Lib.hid ((Blk.new ((w.alloc (.cells #[.int .i64 s.kind, .int .i64 s.arm, .int .i64 s.part, .int .i64 s.slot, .int .i64 s.ticks] 39)).alloc (.cells #[.int .i64 t.kind, .int .i64 t.arm, .int .i64 t.part, .int .i64 t.slot, .int .i64 t.ticks] 39)) 3 #[.int .i64 s.kind, .int .i64 s.arm, .int .i64 s.part, .int .i64 s.slot, .int .i64 s.ticks]).alloc (.cells #[.int .i64 t.kind, .int .i64 t.arm, .int .i64 t.part, .int .i64 t.slot, .int .i64 t.ticks] 3))
  have X4 := Lib.hid (Blk.new (((w.alloc (.cells #[.int .i64 s.kind, .int .i64 s.arm, .int .i64 s.part, .int .i64 s.slot, .int .i64 s.ticks] 39)).alloc (.cells #[.int .i64 t.kind, .int .i64 t.arm, .int .i64 t.part, .int .i64 t.slot, .int .i64 t.ticks] 39)).alloc (.cells #[.int .i64 s.kind, .int .i64 s.arm, .int .i64 s.part, .int .i64 s.slot, .int .i64 s.ticks] 3)) 3 #[.int .i64 t.kind, .int .i64 t.arm, .int .i64 t.part, .int .i64 t.slot, .int .i64 t.ticks])
  simp only [World.size_alloc] at X3 X4
  go_enter Try.func20, Try.ntmps20
  go_wp2_with fail
  refine (compare_any _ _ 5 5 5 5 [s.kind, s.arm, s.part, s.slot, s.ticks] [t.kind, t.arm, t.part, t.slot, t.ticks] _ (cmpS s t) rfl rfl (by decide) (by decide) (RI.blk X3.out rfl) (RI.blk X4.out rfl) rfl).mono ?_
  rintro e w' ⟨rfl, rfl⟩
  go_wp2
  go_ret
  exact ⟨rfl, 0, _, by rw [alloc_eq_grow, alloc_eq_grow, alloc_eq_grow, alloc_eq_grow, grow_grow, grow_grow, grow_grow]; rfl⟩

theorem sortS_any (base : Nat) (v : Value) (n : Nat) (fs : List St) (w : World) (ho : w.ownsRow base 39 5 v n (flat St.cells fs)) (hn : fs.length = n) (hm : n ≤ 100000) (hbase : base ≤ w.heap.size) :
    Calls Try.prog 43 #[v, .func (.func 20) #[] #[]] w fun e w' => e = .returned (.tuple #[]) ∧ ∃ gs : List St, gs.Pairwise (fun x y => ¬ ltS y x) ∧ gs.Perm fs ∧ gs.length = n ∧ w'.ownsRow base 39 5 v n (flat St.cells gs) ∧ Below base w w' := by
  obtain ⟨A, c, rfl⟩ := own_slice ho
  rcases Nat.eq_zero_or_pos n with h0 | h0
  · subst h0
    refine (Try.slices_SortFunc_none_step (α := St) A c _ w).mono ?_
    rintro e w' ⟨rfl, rfl⟩
    exact ⟨rfl, fs, by rw [List.eq_nil_of_length_eq_zero hn]; exact List.Pairwise.nil, List.Perm.refl _, hn, ho, Below.refl _ _⟩
  · obtain ⟨g, cap, hv, _, hlt⟩ := ho.form h0
    cases hv
    have eg : ∀ args w, (callFunc 20 args).run Try.prog w = .ok (.enter 20 args) w := enters_of Try.func20 (by kernel_rfl) rfl
    have hH := holdsK_own St.len ho hn
    have hcon := Try.slices_SortFunc_total_step 5 Try.isAgg39 Try.sizeOf39 St.cells St.len St.one cmpS swoS 20 #[] g 0 c fs.toArray w eg (fun _ _ _ _ x y => CompareS_any x y _) hH hlt (by simp; omega) totS
    simp only [List.size_toArray, hn] at hcon
    refine hcon.mono ?_
    rintro e w' ⟨rfl, m, os, rfl⟩
    have hp := List.mergeSort_perm fs (fun x y => !(ltOf cmpS) y x)
    have hs := List.pairwise_mergeSort (le := fun x y => !(ltOf cmpS) y x) (fun a b c h1 h2 => by
      simp only [Bool.not_eq_true'] at *
      exact swoS.ntrans c b a h2 h1) (fun a b => by
      cases h : ltOf cmpS b a
      · rfl
      · have := (ltOf_S b a).1 h
        have h2 : ltOf cmpS a b = false := by rw [ltOf_S']; intro h3; exact ltS_irr _ (ltS_trans this h3)
        simp [h2]) fs
    have hl : (fs.mergeSort (fun x y => !(ltOf cmpS) y x)).length = n := by rw [hp.length_eq, hn]
    obtain ⟨h1, h2⟩ := own_sorted St.len ho hn hl m os
    refine ⟨rfl, _, hs.imp ?_, hp, hl, h1, h2⟩
    intro x y hxy
    simpa [ltOf_S'] using hxy
end Go.Proofs.Ytioofkhadjaldaa
