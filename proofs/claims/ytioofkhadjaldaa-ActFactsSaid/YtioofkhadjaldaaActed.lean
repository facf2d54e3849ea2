/- The walk of gantkeep4.acted. -/
import Derived.Test.YtioofkhadjaldaaStart
namespace Go.Proofs.Ytioofkhadjaldaa
open Go.RowKit
set_option linter.unusedVariables false
set_option maxRecDepth 100000

def x01 : AW := ⟨0, [-1], [false], [-1]⟩
theorem can01 : canP x01 ⟨0, 0, 0, -1, 0⟩ = 0 := by decide
theorem do01 : doS x01 ⟨0, 0, 0, -1, 0⟩ = ⟨0, [-1], [false], [8]⟩ := by decide
theorem valid01 : ValidA x01 := (validA_iff _).2 ⟨by decide, by decide, by decide, by decide, by decide, by decide, fun i j p h hi hj => by
  have := lt_of_at hj; simp [x01] at this; omega, by decide, fun i j p h hi hj => by have := lt_of_at hj; simp [x01] at this; omega⟩
section
variable (w : World)
theorem zA (o1 o2 : Obj) : Blk (((w.alloc (.cells #[.int .i64 0, .slice none 0 0, .slice none 0 0, .slice none 0 0] 25)).alloc o1).alloc o2).drew w.heap.size 25 #[.int .i64 0, .slice none 0 0, .slice none 0 0, .slice none 0 0] := ((Blk.new _ _ _).alloc _).alloc _
theorem zB (o1 o2 : Obj) : Blk (((w.alloc o1).alloc (.cells #[.int .i64 0, .slice none 0 0, .slice none 0 0, .slice none 0 0] 25)).alloc o2).drew (w.heap.size + 1) 25 #[.int .i64 0, .slice none 0 0, .slice none 0 0, .slice none 0 0] := (blk_two _ _ _ _).alloc _
theorem zC (o1 o2 : Obj) : Blk (((w.alloc o1).alloc o2).alloc (.cells #[.int .i64 0, .slice none 0 0, .slice none 0 0, .slice none 0 0] 25)).drew (w.heap.size + 1 + 1) 25 #[.int .i64 0, .slice none 0 0, .slice none 0 0, .slice none 0 0] := by
  have := blk_two (w.alloc o1) o2 25 #[.int .i64 0, .slice none 0 0, .slice none 0 0, .slice none 0 0]
  rwa [World.size_alloc] at this
theorem bA (o1 o2 : Obj) : Below w.heap.size w ((w.alloc o1).alloc o2).drew := (((Below.refl _ _).alloc (Nat.le_refl _) _).alloc (by simp) _).drew
theorem bB (o1 o2 o3 : Obj) : Below w.heap.size w (((w.alloc o1).alloc o2).alloc o3).drew := ((((Below.refl _ _).alloc (Nat.le_refl _) _).alloc (by simp) _).alloc (by simp; omega) _).drew
end
theorem mk_arm (w : World) : (Instr.makeSlice 27 (.int .i64 1) (.int .i64 1)).run Try.prog w = .ok (.slice (some ⟨w.heap.size, 0, none⟩) 1 1) (w.alloc (.cells (armC ⟨#[]⟩).toArray 84)) := by
  kernel_rfl
theorem mk_part (w : World) : (Instr.makeSlice 29 (.int .i64 1) (.int .i64 1)).run Try.prog w = .ok (.slice (some ⟨w.heap.size, 0, none⟩) 1 1) (w.alloc (.cells (partC ⟨#[]⟩).toArray 87)) := by
  kernel_rfl

theorem hid_mk {p : Prop} (h : p) : Hid p := h
set_option maxHeartbeats 1000000 in
theorem acted_any (w : World) : Calls Try.prog 14 #[] w fun e w' => e = .returned (.bool true) ∧ Below w.heap.size w w' := by
  obtain ⟨oa, m1⟩ : ∃ oa : Obj, ∀ w : World, (Instr.makeSlice 27 (.int .i64 1) (.int .i64 1)).run Try.prog w = .ok (.slice (some ⟨w.heap.size, 0, none⟩) 1 1) (w.alloc oa) := ⟨_, mk_arm⟩
  obtain ⟨ob, m2⟩ : ∃ oa : Obj, ∀ w : World, (Instr.makeSlice 29 (.int .i64 1) (.int .i64 1)).run Try.prog w = .ok (.slice (some ⟨w.heap.size, 0, none⟩) 1 1) (w.alloc oa) := ⟨_, mk_part⟩
  go_enter Try.func14, Try.ntmps14
  go_upto_region 1 with fail
  go_cut [1] (fun s1 wx => ∃ (gt g1 g2 g3 d1 d2 d3 : Nat), s1 = .pointer (some ⟨gt, 0, none⟩) ∧ Hid (Blk wx gt 25 #[.int .i64 0, .slice (some ⟨g1, 0, none⟩) 1 d1, .slice (some ⟨g2, 0, none⟩) 1 d2, .slice (some ⟨g3, 0, none⟩) 1 d3]) ∧ Hid (OW w.heap.size wx x01 g1 g2 g3 1 1 d1 d2 d3) ∧ Hid (Below w.heap.size w wx))
  case first =>
    go_region_law (go_simp; go_at_call 40; refine (Start_any 1 1 0 _ _ none 1 1 0 _ (by omega) (by omega) (by omega)).mono ?_; rintro e wq ⟨g1, g2, g3, d1, d2, d3, rfl, ho, hb⟩; have KB : Hid (Below w.heap.size w wq) := (by (unfold Hid; first | (with_reducible exact ((bA w _ _).trans (hb.mono (bA w _ _).size))) | (with_reducible exact ((bB w _ _ _).trans (hb.mono (bB w _ _ _).size))))); have OO : Hid (OW w.heap.size wq x01 g1 g2 g3 1 1 d1 d2 d3) := ho.mono (h' := w.heap.size) (by simp <;> omega); (first | ((with_reducible have Z0 := Blk.below (zA w _ _) hb (Blk.lt (zA w _ _))); have ZZ := Lib.hid Z0; clear Z0; obtain ⟨z0, z1, z2, z3⟩ := blk4 ZZ.out; obtain ⟨f0, f1, f2, f3⟩ := frz ZZ.out) | ((with_reducible have Z0 := Blk.below (zB w _ _) hb (Blk.lt (zB w _ _))); have ZZ := Lib.hid Z0; clear Z0; obtain ⟨z0, z1, z2, z3⟩ := blk4 ZZ.out; obtain ⟨f0, f1, f2, f3⟩ := frz ZZ.out) | ((with_reducible have Z0 := Blk.below (zC w _ _) hb (Blk.lt (zC w _ _))); have ZZ := Lib.hid Z0; clear Z0; obtain ⟨z0, z1, z2, z3⟩ := blk4 ZZ.out; obtain ⟨f0, f1, f2, f3⟩ := frz ZZ.out) | have ZZ : True := trivial); clear ho hb)
    all_goals
      go_wp2_with fail
      go_meet
      first
      | (with_reducible refine ⟨_, g1, g2, g3, d1, d2, d3, rfl, hid_mk (Blk.new _ _ _), hid_mk (OO.out.bel ((Below.refl _ _).alloc (Nat.le_refl _) _)), hid_mk (KB.out.alloc ?_ _)⟩; exact KB.out.size)
      | (with_reducible refine ⟨_, g1, g2, g3, d1, d2, d3, rfl, hid_mk (Blk.set4 ZZ.out _ _ _ _), hid_mk (OO.out.set4 ZZ.out _ _ _ _), hid_mk (below_set4 KB.out ?_ _ _ _ _)⟩; omega)
  case rest =>
    clear m1 m2
    obtain ⟨gt, g1, g2, g3, d1, d2, d3, rfl, HT, HO, HB⟩ := hcut
    obtain ⟨t0, t1, t2, t3⟩ := blk4 HT.out
    have R4 := Lib.hid (HO.out.rw4 (by omega) (by omega))
    go_wp2_with fail
    refine (Do_yes x01 _ _ _ 1 1 d1 d2 d3 0 0 0 (-1) 0 _ R4.out valid01 (by omega) (by omega) can01).mono ?_
    rintro e w3 ⟨j1, j2, j3, e1, e2, e3, rfl, ho, hb⟩
    rw [do01] at ho
    have c3 : w3.cell? ⟨j3, 0, none⟩ = some (.int .i64 8) := ho.o3.cellAt 0 (by omega)
    have B3 := Lib.hid (HB.out.trans (hb.mono HB.out.size))
    have HO3 := Lib.hid ho
    have c4 := keep_cell ((Below.refl w3.heap.size w3).alloc (Nat.le_refl _) (.cells #[.int .i64 x01.slots, .slice (some ⟨j1, 0, none⟩) 1 e1, .slice (some ⟨j2, 0, none⟩) 1 e2, .slice (some ⟨j3, 0, none⟩) 1 e3] 25)) c3
    clear ho hb
    go_wp2_with fail
    go_ret
    exact ⟨rfl, B3.out.alloc B3.out.size _⟩
end Go.Proofs.Ytioofkhadjaldaa
