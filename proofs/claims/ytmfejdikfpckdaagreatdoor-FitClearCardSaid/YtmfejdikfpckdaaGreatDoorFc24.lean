/- gantmake.Works. Printed by gen/fitl.py. · The polygons of gantmake are strictly convex; slots of gantmake are of moderate size. No walk. · The walls of gantmake are convex and of moderate size; when a part is clear of them. No walk. · fit.Clear. Printed by gen/fitp.py. · fit.Apart without walls. Printed by gen/fitq.py. · fit.Apart. Printed by gen/fitq.py. · fit.Slots. Printed by gen/fitp.py. · gantkeep4.works. Printed by gen/fitm.py. · fit.Grasp. Printed by gen/fitm.py. · gantkeep4.fitted. Printed by gen/fitm.py. · a remainder that is an index. Printed by gen/fitn.py. · FitClear: Contains, a slot without its tolerance. Printed by gen/fitr.py. -/
import Derived.Test.YtmfejdikfpckdaaGreatDoorFc23
import Derived.Test.YtmfejdikfpckdaaGreatDoorFc18
import Derived.Test.YtmfejdikfpckdaaGreatDoorFc19
import Derived.Test.YtmfejdikfpckdaaGreatDoorFc6
namespace Go.Proofs.YtmfejdikfpckdaaGreatDoor
open Go.RowKit
set_option linter.unusedVariables false
set_option maxRecDepth 100000

theorem iArm : InfoT Tryz.prog 97 12 168 := InfoT.of zArm (by kernel_rfl) rfl
theorem uArms : Tryz.prog.underlying 23 = some (.slice 97) := Tryz.underlying23
theorem kArms : ∃ d, Tryz.prog.underlying 23 = some d ∧ d.isRow = false := ⟨_, Tryz.underlying23, rfl⟩
theorem sArms : (Tryz.prog.info? 23).map (·.size) = some 1 := by kernel_rfl
theorem sWalls : (Tryz.prog.info? 24).map (·.size) = some 1 := by kernel_rfl
theorem sParts : (Tryz.prog.info? 25).map (·.size) = some 1 := by kernel_rfl
theorem sSlots : (Tryz.prog.info? 26).map (·.size) = some 1 := by kernel_rfl
theorem sGates : (Tryz.prog.info? 27).map (·.size) = some 1 := by kernel_rfl
theorem zWks : (Tryz.prog.info? 31).bind (·.zero) = some (.agg #[.slice none 0 0, .slice none 0 0, .slice none 0 0, .slice none 0 0, .slice none 0 0, .bool false, .string ⟨#[]⟩, .string ⟨#[]⟩]) := by kernel_rfl
theorem zVcs : (Tryz.prog.info? 40).bind (·.zero) = some (.slice none 0 0) := by kernel_rfl
theorem iVcs : InfoT Tryz.prog 40 1 24 := InfoT.of zVcs (by kernel_rfl) rfl
theorem zGat : (Tryz.prog.info? 107).bind (·.zero) = some (.agg #[.string ⟨#[]⟩, .bool false, .string ⟨#[]⟩, .string ⟨#[]⟩, .bool false, .string ⟨#[]⟩, .string ⟨#[]⟩, .bool false, .string ⟨#[]⟩, .string ⟨#[]⟩, .bool false, .string ⟨#[]⟩, .string ⟨#[]⟩]) := by kernel_rfl
theorem iGat : InfoT Tryz.prog 107 13 176 := InfoT.of zGat (by kernel_rfl) rfl
theorem uGates : Tryz.prog.underlying 27 = some (.slice 107) := Tryz.underlying27
theorem kGates : ∃ d, Tryz.prog.underlying 27 = some d ∧ d.isRow = false := ⟨_, Tryz.underlying27, rfl⟩
/-- What a slot of gantmake.Works is. -/
def SKE (x : SltE) : Prop := ∃ (a b t : Int) (d : Nat), x.x = some (ofQ a 4) ∧ x.y = some (ofQ b 4) ∧ x.t = some (ofQ t 2) ∧ x.by_ = some (ofQ 1 d) ∧ (-20 ≤ a ∧ a ≤ 20) ∧ (-12 ≤ b ∧ b ≤ 12) ∧ (-2 ≤ t ∧ t ≤ 2) ∧ (8 ≤ d ∧ d ≤ 27)
/-- A slice of points among blocks. -/
def VIE (E : Ents) (v : Value) (l : List (Rat × Rat)) : Prop := ∃ (b c : Nat) (more : List Value), v = .slice (some ⟨b, 0, none⟩) l.length c ∧ l.length ≤ c ∧ (b, 44, vecC l ++ more) ∈ E
theorem VIE.mono {E E' : Ents} {v : Value} {l : List (Rat × Rat)} (h : VIE E v l) (hs : ∀ x ∈ E, x ∈ E') : VIE E' v l := by
  obtain ⟨b, c, more, h1, h2, h3⟩ := h
  exact ⟨b, c, more, h1, h2, hs _ h3⟩
theorem VIE.vatW {W : World} {E : Ents} {v : Value} {l : List (Rat × Rat)} (h : VIE E v l) (hW : ∀ x ∈ E, Blk W x.1 x.2.1 x.2.2.toArray) : VAt W v l := by
  obtain ⟨b, c, more, h1, h2, h3⟩ := h
  exact ⟨b, c, _, more, h1, h2, hW _ h3⟩
def WOK (x : WalE) : Prop := ∃ a b c d : Int, x.l = rectI a b c d ∧ a < c ∧ b < d ∧ -1000 ≤ a ∧ c ≤ 1000 ∧ -1000 ≤ b ∧ d ≤ 1000
theorem fix_cons {l l1 : Ents} {b : Nat} {T : TypeId} {cs : List Value} (h : ∀ x : Nat × TypeId × List Value, fixT x.2.1 = true → (x ∈ l ↔ x ∈ l1)) (hT : fixT T = false) : ∀ x : Nat × TypeId × List Value, fixT x.2.1 = true → (x ∈ l ↔ x ∈ (b, T, cs) :: l1) := fun x hf => by
  rw [List.mem_cons, h x hf]
  constructor
  · exact .inr
  · rintro (rfl | h)
    · rw [hT] at hf; cases hf
    · exact h
theorem perm_in (x : Nat × TypeId × List Value) (A B C : Ents) : (x :: (A ++ (B ++ C))).Perm (A ++ (B ++ x :: C)) := by
  have h := (List.perm_middle (a := x) (l₁ := A ++ B) (l₂ := C)).symm
  simpa only [List.append_assoc] using h
set_option maxHeartbeats 16000000 in
theorem works_any (S : Sd) (w : World) (hS : Hid (S.ok w)) (hT : Tb w) :
    Calls Tryz.prog 23 #[.slice S.A S.xs.length S.c] w fun e w' => ∃ v ps ss ws, e = .returned v ∧ (∃ E, Hp w w' E ∧ ∀ W, (∀ x ∈ E, Blk W x.1 x.2.1 x.2.2.toArray) → WkF W v ps ss ws) ∧ (∀ p ∈ ps, ∃ T, p.l = polyL T) ∧ (∀ s ∈ ss, SKE s) ∧ (∀ x ∈ ws, WOK x) ∧ ps.length ≤ 2 ∧ ss.length ≤ 3 ∧ ws.length ≤ 2 ∧ Below w.heap.size w w' := by
  have H := Lib.hid (Hp.start hT)
  clear hT
  obtain ⟨q0, hq0⟩ : ∃ r, S.nx 2 = r := ⟨_, rfl⟩
  have bq0 : 0 ≤ q0 ∧ q0 < 2 := by rw [← hq0]; exact S.nx_bd 2 (by decide)
  obtain ⟨bq0l, bq0r⟩ := bq0
  obtain ⟨cn, hcn⟩ : ∃ cn : Nat, 1 + q0 = cn := ⟨(1 + q0).toNat, by omega⟩
  have bcn : 1 ≤ cn ∧ cn ≤ 2 := by omega
  have wcn : IntKind.i64.wrap (1 + q0) = (cn : Int) := by rw [hcn]; exact IntWalk.i64_in _ (by omega)
  have HCN := Lib.hid hcn
  have HQ0 := Lib.hid hq0
  have HS1 := Lib.hid hS.out.next
  clear hcn hq0
  go_enter Tryz.func23, Tryz.ntmps23
  go_wp2_with (first
      | go_skip
      | ((with_reducible refine isAlloc ?_); refine alA (hz := zWks) H ?_; clear H; intro _ _ H)
      | ((with_reducible refine isLoad ?_); refine ldA H ?_)
      | ((with_reducible refine isLoad ?_); refine ld1A H ?_)
      | ((with_reducible refine isStore ?_); refine stA H ?_; clear H; intro _ H)
      | ((with_reducible refine isStore ?_); refine st1A H ?_; clear H; intro _ H)
      | ((with_reducible refine isBox ?_); refine bxA H ?_; clear H; intro _ _ H)
      | ((with_reducible refine isAlloc ?_); refine alA H ?_; clear H; intro _ _ H))
  rename_i g2 W2 g3 W3 g4 W4 Ka hKa Kb hKb Kc hKc
  have hX := nextH_any (m' := (g4, 31, [.slice none 0 0, .slice none 0 0, .slice none 0 0, .slice none 0 0, .slice none 0 0, .bool false, .string ⟨#[]⟩, .string ⟨#[]⟩]) :: (g3, 93, [S.sn.v]) :: (g2, 31, [.slice none 0 0, .slice none 0 0, .slice none 0 0, .slice none 0 0, .slice none 0 0, .bool false, .string ⟨#[]⟩, .string ⟨#[]⟩]) :: ([])) S g3 2 H hS (Lib.hid (by (repeat (first | apply Upd.head | apply Upd.tail | assumption)))) (by decide) (by decide)
  rw [HQ0.out] at hX
  refine hX.mono ?_
  clear hX
  rintro _ _ ⟨rfl, H2⟩
  clear H
  have H := Lib.hid H2
  clear H2
  go_wp2_with (first
      | go_skip
      | ((with_reducible refine isAlloc ?_); refine alA (hz := zWks) H ?_; clear H; intro _ _ H)
      | ((with_reducible refine isLoad ?_); refine ldA H ?_)
      | ((with_reducible refine isLoad ?_); refine ld1A H ?_)
      | ((with_reducible refine isStore ?_); refine stA H ?_; clear H; intro _ H)
      | ((with_reducible refine isStore ?_); refine st1A H ?_; clear H; intro _ H)
      | ((with_reducible refine isBox ?_); refine bxA H ?_; clear H; intro _ _ H)
      | ((with_reducible refine isAlloc ?_); refine alA H ?_; clear H; intro _ _ H))
  go_loopw [18] (fun i_ wr => ∃ (k : Nat) (S1 : Sd) (B : Option Addr) (c : Nat) (xs cur : List Value), i_ = .int .i64 k ∧ k ≤ cn ∧ Hid (S1.ok w) ∧ Hid (RowV 12 (.slice B k c) k xs cur) ∧ Hid (Hp w wr ((g4, 31, [.slice B k c, .slice none 0 0, .slice none 0 0, .slice none 0 0, .slice none 0 0, .bool false, .string ⟨#[]⟩, .string ⟨#[]⟩]) :: (g3, 93, [S1.v]) :: (g2, 31, [.slice none 0 0, .slice none 0 0, .slice none 0 0, .slice none 0 0, .slice none 0 0, .bool false, .string ⟨#[]⟩, .string ⟨#[]⟩]) :: (rowE (.slice B k c) 97 cur ++ [])))) (fun i_ _ => cn - (intOf i_).toNat)
  case atStart => exact ⟨0, S.sn, none, 0, [], [], rfl, by omega, HS1, RowV.nil 12, H⟩
  case round =>
    clear H HS1
    obtain ⟨k, S1, B, c, xs, cur, rfl, hk1, HS1, R, H⟩ := hrel
    by_cases hlt : k < cn
    · have kl : k ≤ 1 := by omega
      go_wp2_with (first
          | go_skip
          | ((with_reducible refine isLoad ?_); refine ldA H ?_)
          | ((with_reducible refine isLoad ?_); refine ld1A H ?_)
          | ((with_reducible refine isStore ?_); refine stA H ?_; clear H; intro _ H)
          | ((with_reducible refine isStore ?_); refine st1A H ?_; clear H; intro _ H)
          | ((with_reducible refine isBox ?_); refine bxA H ?_; clear H; intro _ _ H)
          | ((with_reducible refine isAlloc ?_); refine alA H ?_; clear H; intro _ _ H))
      refine wp_region_Y 8 [.c (.pointer (some ⟨g4, 0, none⟩)), .c (.slice B k c), .c (.pointer (some ⟨g3, 0, none⟩)), .c (.int .i64 k), .y, .a, .y, .c (.pointer (some ⟨g4, 0, none⟩))] ([(g4, 31, [.slice B k c, .slice none 0 0, .slice none 0 0, .slice none 0 0, .slice none 0 0, .bool false, .string ⟨#[]⟩, .string ⟨#[]⟩])]) H (by (repeat (first | exact List.Sublist.refl _ | exact List.nil_sublist _ | exact List.sublist_append_right _ _ | refine List.Sublist.cons_cons _ ?_ | refine List.Sublist.cons _ ?_))) (by kernel_rfl) (by kernel_rfl) (by kernel_rfl) ?_
      simp only [List.take_succ_cons, List.take_zero, List.drop_succ_cons, List.drop_zero]
      refine wpY_c (by rfl) (by (first | exact wanted_none rfl | exact wanted_some rfl rfl)) (by intro W _; first | (go_simp; rfl) | (go_simp; done) | (trace_state; fail)) ?_
      (simp only [Act.put, List.setIfInBounds_toArray, List.set_cons_succ, List.set_cons_zero])
      refine wpY_load1 (by rfl) (by rfl) (by (first | exact wanted_none rfl | exact wanted_some rfl rfl)) kArms (by rfl) (by (repeat (first | exact List.Mem.head _ | refine List.Mem.tail _ ?_ | assumption))) (by rfl) ?_
      (simp only [Act.put, List.setIfInBounds_toArray, List.set_cons_succ, List.set_cons_zero])
      refine wpY_c (by rfl) (by (first | exact wanted_none rfl | exact wanted_some rfl rfl)) (by intro W _; first | (go_simp; rfl) | (go_simp; done) | (trace_state; fail)) ?_
      (simp only [Act.put, List.setIfInBounds_toArray, List.set_cons_succ, List.set_cons_zero])
      refine wpY_c (by rfl) (by (first | exact wanted_none rfl | exact wanted_some rfl rfl)) (by intro W _; first | (go_simp; rfl) | (go_simp; done) | (trace_state; fail)) ?_
      (simp only [Act.put, List.setIfInBounds_toArray, List.set_cons_succ, List.set_cons_zero])
      refine wpY_y (by rfl) (by (first | exact wanted_none rfl | exact wanted_some rfl rfl)) (fun G F W HF hG => ?_)
      go_simp
      unfold upY
      refine Calls.mono (arm_any S1 g3 k kl HF HS1 (by (repeat (first | exact List.Mem.head _ | refine List.Mem.tail _ ?_ | assumption)))) ?_
      rintro _ W2 ⟨nm, ax, ay, at_, Aa, ka, ca, S', mm, rfl, hS', um, h2⟩
      have ue : Upd (((g4, 31, [.slice B k c, .slice none 0 0, .slice none 0 0, .slice none 0 0, .slice none 0 0, .bool false, .string ⟨#[]⟩, .string ⟨#[]⟩]) :: (g3, 93, [S1.v]) :: (g2, 31, [.slice none 0 0, .slice none 0 0, .slice none 0 0, .slice none 0 0, .slice none 0 0, .bool false, .string ⟨#[]⟩, .string ⟨#[]⟩]) :: (rowE (.slice B k c) 97 cur ++ [])) ++ F) g3 93 [S1.v] [S'.v] (((g4, 31, [.slice B k c, .slice none 0 0, .slice none 0 0, .slice none 0 0, .slice none 0 0, .bool false, .string ⟨#[]⟩, .string ⟨#[]⟩]) :: (g3, 93, [S'.v]) :: (g2, 31, [.slice none 0 0, .slice none 0 0, .slice none 0 0, .slice none 0 0, .slice none 0 0, .bool false, .string ⟨#[]⟩, .string ⟨#[]⟩]) :: (rowE (.slice B k c) 97 cur ++ [])) ++ F) := by (repeat (first | apply Upd.head | apply Upd.tail | assumption))
      obtain rfl := Upd.det ue HF.out.nd um
      have HS2 := Lib.hid hS'
      refine ⟨_, rfl, hG _ _ ((g4, 31, [.slice B k c, .slice none 0 0, .slice none 0 0, .slice none 0 0, .slice none 0 0, .bool false, .string ⟨#[]⟩, .string ⟨#[]⟩]) :: (g3, 93, [S'.v]) :: (g2, 31, [.slice none 0 0, .slice none 0 0, .slice none 0 0, .slice none 0 0, .slice none 0 0, .bool false, .string ⟨#[]⟩, .string ⟨#[]⟩]) :: (rowE (.slice B k c) 97 cur ++ [])) h2 (by (repeat (first | exact List.Sublist.refl _ | exact List.nil_sublist _ | exact List.sublist_append_right _ _ | refine List.Sublist.cons_cons _ ?_ | refine List.Sublist.cons _ ?_))) (Upd.fixed (b := g3) (T := 93) (by (repeat (first | apply Upd.head | apply Upd.tail | assumption))) (by rfl)) ?_⟩
      clear HF hG h2 um ue hS'
      clear G F W W2
      (simp only [Act.put, List.setIfInBounds_toArray, List.set_cons_succ, List.set_cons_zero])
      refine wpY_V 97 ([.string nm, .bool (sgO ax), .string (nuO ax), .string (deO ax), .bool (sgO ay), .string (nuO ay), .string (deO ay), .bool false, .bool (sgO at_), .string (nuO at_), .string (deO at_), .slice Aa ka ca]) 1 (by rfl) (by rfl) (by intro W; kernel_rfl) ?_
      intro b5
      (simp only [Act.put, List.setIfInBounds_toArray, List.set_cons_succ, List.set_cons_zero])
      refine wpY_app [(b5, 97, [.string nm, .bool (sgO ax), .string (nuO ax), .string (deO ax), .bool (sgO ay), .string (nuO ay), .string (deO ay), .bool false, .bool (sgO at_), .string (nuO at_), .string (deO at_), .slice Aa ka ca]), (g4, 31, [.slice B k c, .slice none 0 0, .slice none 0 0, .slice none 0 0, .slice none 0 0, .bool false, .string ⟨#[]⟩, .string ⟨#[]⟩]), (g3, 93, [S'.v]), (g2, 31, [.slice none 0 0, .slice none 0 0, .slice none 0 0, .slice none 0 0, .slice none 0 0, .bool false, .string ⟨#[]⟩, .string ⟨#[]⟩])] ([]) (by rfl) (by (first | exact wanted_none rfl | exact wanted_some rfl rfl)) R iArm (by decide) uArms (by rfl) (by rfl) (by rfl) (.head _) (by rfl) (by rfl) (by decide) (by unfold maxLen; omega) (by omega) (by rfl) (by intro x hx; rw [List.mem_singleton.1 hx]; exact List.mem_append_left _ (by (repeat (first | exact List.Mem.head _ | refine List.Mem.tail _ ?_ | assumption)))) (by rfl) (fun v4 cur4 R4 => ?_)
      obtain ⟨B4, c4, hv4, hc4⟩ := R4.out.shape
      subst hv4
      clear hc4
      (simp only [Act.put, List.setIfInBounds_toArray, List.set_cons_succ, List.set_cons_zero])
      refine wpY_c (by rfl) (by (first | exact wanted_none rfl | exact wanted_some rfl rfl)) (by intro W _; first | (go_simp; rfl) | (go_simp; done) | (trace_state; fail)) ?_
      (simp only [Act.put, List.setIfInBounds_toArray, List.set_cons_succ, List.set_cons_zero])
      refine wpY_nil ?_
      clear H
      intro _ H
      go_wp2_with (first
          | go_skip
          | ((with_reducible refine isStore ?_); refine st1A (hT := sArms) H ?_; clear H; intro _ H)
          | ((with_reducible refine isLoad ?_); refine ldA H ?_)
          | ((with_reducible refine isLoad ?_); refine ld1A H ?_)
          | ((with_reducible refine isStore ?_); refine stA H ?_; clear H; intro _ H)
          | ((with_reducible refine isStore ?_); refine st1A H ?_; clear H; intro _ H)
          | ((with_reducible refine isBox ?_); refine bxA H ?_; clear H; intro _ _ H)
          | ((with_reducible refine isAlloc ?_); refine alA H ?_; clear H; intro _ _ H))
      have H5 := Lib.hid H.out.drop
      clear H
      go_roundw
      case rel => exact ⟨k + 1, S', B4, c4, _, cur4, by go_num, by omega, HS2, R4, H5⟩
      case measure => simp [intOf]; omega
    · have hkn : k = cn := by omega
      subst hkn
      replace H := Lib.hid (H.out.sub (l2 := (g4, 31, [.slice B k c, .slice none 0 0, .slice none 0 0, .slice none 0 0, .slice none 0 0, .bool false, .string ⟨#[]⟩, .string ⟨#[]⟩]) :: (g3, 93, [S1.v]) :: (g2, 31, [.slice none 0 0, .slice none 0 0, .slice none 0 0, .slice none 0 0, .slice none 0 0, .bool false, .string ⟨#[]⟩, .string ⟨#[]⟩]) :: ([])) (by (repeat (first | exact List.Sublist.refl _ | exact List.nil_sublist _ | exact List.sublist_append_right _ _ | refine List.Sublist.cons_cons _ ?_ | refine List.Sublist.cons _ ?_))))
      clear R xs cur
      obtain ⟨q1, hq1⟩ : ∃ r, S1.nx 3 = r := ⟨_, rfl⟩
      have bq1 : 0 ≤ q1 ∧ q1 < 3 := by rw [← hq1]; exact S1.nx_bd 3 (by decide)
      obtain ⟨bq1l, bq1r⟩ := bq1
      obtain ⟨wn, hwn⟩ : ∃ d : Nat, q1 = d := ⟨q1.toNat, by omega⟩
      have bwn : wn ≤ 2 := by omega
      rw [hwn] at hq1
      have HQ1 := Lib.hid hq1
      have HS2 := Lib.hid HS1.out.next
      clear hwn hq1 bq1l bq1r q1
      go_wp2_with (first
          | go_skip
          | ((with_reducible refine isLoad ?_); refine ldA H ?_)
          | ((with_reducible refine isLoad ?_); refine ld1A H ?_)
          | ((with_reducible refine isStore ?_); refine stA H ?_; clear H; intro _ H)
          | ((with_reducible refine isStore ?_); refine st1A H ?_; clear H; intro _ H)
          | ((with_reducible refine isBox ?_); refine bxA H ?_; clear H; intro _ _ H)
          | ((with_reducible refine isAlloc ?_); refine alA H ?_; clear H; intro _ _ H))
      have hX := nextH_any (m' := (g4, 31, [.slice B k c, .slice none 0 0, .slice none 0 0, .slice none 0 0, .slice none 0 0, .bool false, .string ⟨#[]⟩, .string ⟨#[]⟩]) :: (g3, 93, [S1.sn.v]) :: (g2, 31, [.slice none 0 0, .slice none 0 0, .slice none 0 0, .slice none 0 0, .slice none 0 0, .bool false, .string ⟨#[]⟩, .string ⟨#[]⟩]) :: ([])) S1 g3 3 H HS1 (Lib.hid (by (repeat (first | apply Upd.head | apply Upd.tail | assumption)))) (by decide) (by decide)
      rw [HQ1.out] at hX
      refine hX.mono ?_
      clear hX
      rintro _ _ ⟨rfl, H2⟩
      clear H
      have H := Lib.hid H2
      clear H2
      go_wp2_with (first
          | go_skip
          | ((with_reducible refine isLoad ?_); refine ldA H ?_)
          | ((with_reducible refine isLoad ?_); refine ld1A H ?_)
          | ((with_reducible refine isStore ?_); refine stA H ?_; clear H; intro _ H)
          | ((with_reducible refine isStore ?_); refine st1A H ?_; clear H; intro _ H)
          | ((with_reducible refine isBox ?_); refine bxA H ?_; clear H; intro _ _ H)
          | ((with_reducible refine isAlloc ?_); refine alA H ?_; clear H; intro _ _ H))
      go_loopw [32] (fun i_ wr => ∃ (k2 : Nat) (S2 : Sd) (B2 : Option Addr) (c2 : Nat) (ws : List WalE) (cur2 : List Value) (E2 : Ents), i_ = .int .i64 k2 ∧ k2 ≤ wn ∧ Hid (S2.ok w) ∧ Hid (RowV 1 (.slice B2 k2 c2) k2 (flat walC ws) cur2) ∧ ws.length = k2 ∧ Hid (∀ x ∈ ws, WOK x ∧ VIE E2 x.sh x.l) ∧ Hid (Hp w wr ((g4, 31, [.slice B k c, .slice B2 k2 c2, .slice none 0 0, .slice none 0 0, .slice none 0 0, .bool false, .string ⟨#[]⟩, .string ⟨#[]⟩]) :: (g3, 93, [S2.v]) :: (g2, 31, [.slice none 0 0, .slice none 0 0, .slice none 0 0, .slice none 0 0, .slice none 0 0, .bool false, .string ⟨#[]⟩, .string ⟨#[]⟩]) :: (rowE (.slice B2 k2 c2) 40 cur2 ++ E2)))) (fun i_ _ => wn - (intOf i_).toNat)
      case atStart => exact ⟨0, _, none, 0, [], [], [], rfl, by omega, HS2, RowV.nil 1, rfl, (fun x hx => by cases hx), H⟩
      case round =>
        clear H HS2
        obtain ⟨k2, S2, B2, c2, ws, cur2, E2, rfl, hk2, HS2, R, hwl, HW, H⟩ := hrel
        by_cases hlt : k2 < wn
        · skip
          have HT1 := Lib.hid HS2.out.next
          have HT2 := Lib.hid HT1.out.next
          have HT3 := Lib.hid HT2.out.next
          have HT4 := Lib.hid HT3.out.next
          have HT5 := Lib.hid HT4.out.next
          obtain ⟨p1, hp1⟩ : ∃ r, S2.nx 80 = r := ⟨_, rfl⟩
          have bp1 : 0 ≤ p1 ∧ p1 < 80 := by rw [← hp1]; exact S2.nx_bd 80 (by decide)
          obtain ⟨bp1l, bp1r⟩ := bp1
          obtain ⟨p2, hp2⟩ : ∃ r, S2.sn.nx 30 = r := ⟨_, rfl⟩
          have bp2 : 0 ≤ p2 ∧ p2 < 30 := by rw [← hp2]; exact S2.sn.nx_bd 30 (by decide)
          obtain ⟨bp2l, bp2r⟩ := bp2
          obtain ⟨p3, hp3⟩ : ∃ r, S2.sn.sn.nx 2 = r := ⟨_, rfl⟩
          have bp3 : 0 ≤ p3 ∧ p3 < 2 := by rw [← hp3]; exact S2.sn.sn.nx_bd 2 (by decide)
          obtain ⟨bp3l, bp3r⟩ := bp3
          obtain ⟨p4, hp4⟩ : ∃ r, S2.sn.sn.sn.nx 20 = r := ⟨_, rfl⟩
          have bp4 : 0 ≤ p4 ∧ p4 < 20 := by rw [← hp4]; exact S2.sn.sn.sn.nx_bd 20 (by decide)
          obtain ⟨bp4l, bp4r⟩ := bp4
          obtain ⟨p5, hp5⟩ : ∃ r, S2.sn.sn.sn.sn.nx 5 = r := ⟨_, rfl⟩
          have bp5 : 0 ≤ p5 ∧ p5 < 5 := by rw [← hp5]; exact S2.sn.sn.sn.sn.nx_bd 5 (by decide)
          obtain ⟨bp5l, bp5r⟩ := bp5
          obtain ⟨xx, hxx⟩ : ∃ q : Int, p1 - 30 = q := ⟨_, rfl⟩
          obtain ⟨y0, hy0⟩ : ∃ q : Int, 12 + p2 = q := ⟨_, rfl⟩
          have v1 : IntKind.i64.wrap (p1 - 30) = xx := by rw [hxx]; exact IntWalk.i64_in _ (by omega)
          have v2 : IntKind.i64.wrap (12 + p2) = y0 := by rw [hy0]; exact IntWalk.i64_in _ (by omega)
          have bx : -30 ≤ xx ∧ xx ≤ 50 := by omega
          have by0 : 12 ≤ y0 ∧ y0 ≤ 42 := by omega
          obtain ⟨x1, hx1⟩ : ∃ q : Int, xx + 1 = q := ⟨_, rfl⟩
          obtain ⟨uu, huu⟩ : ∃ q : Int, x1 + p4 = q := ⟨_, rfl⟩
          have v3 : IntKind.i64.wrap (xx + 1) = x1 := by rw [hx1]; exact IntWalk.i64_in _ (by omega)
          have v4 : IntKind.i64.wrap (x1 + p4) = uu := by rw [huu]; exact IntWalk.i64_in _ (by omega)
          have bu : xx < uu ∧ uu ≤ 1000 := by omega
          clear hxx hy0 hx1 huu
          go_wp2_with (first
              | go_skip
              | ((with_reducible refine isLoad ?_); refine ldA H ?_)
              | ((with_reducible refine isLoad ?_); refine ld1A H ?_)
              | ((with_reducible refine isStore ?_); refine stA H ?_; clear H; intro _ H)
              | ((with_reducible refine isStore ?_); refine st1A H ?_; clear H; intro _ H)
              | ((with_reducible refine isBox ?_); refine bxA H ?_; clear H; intro _ _ H)
              | ((with_reducible refine isAlloc ?_); refine alA H ?_; clear H; intro _ _ H))
          have hX := nextH_any (m' := (g4, 31, [.slice B k c, .slice B2 k2 c2, .slice none 0 0, .slice none 0 0, .slice none 0 0, .bool false, .string ⟨#[]⟩, .string ⟨#[]⟩]) :: (g3, 93, [S2.sn.v]) :: (g2, 31, [.slice none 0 0, .slice none 0 0, .slice none 0 0, .slice none 0 0, .slice none 0 0, .bool false, .string ⟨#[]⟩, .string ⟨#[]⟩]) :: (rowE (.slice B2 k2 c2) 40 cur2 ++ E2)) S2 g3 80 H HS2 (Lib.hid (by (repeat (first | apply Upd.head | apply Upd.tail | assumption)))) (by decide) (by decide)
          rw [hp1] at hX
          refine hX.mono ?_
          clear hX
          rintro _ _ ⟨rfl, H2⟩
          clear H
          have H := Lib.hid H2
          clear H2
          go_wp2_with (first
              | go_skip
              | ((with_reducible refine isLoad ?_); refine ldA H ?_)
              | ((with_reducible refine isLoad ?_); refine ld1A H ?_)
              | ((with_reducible refine isStore ?_); refine stA H ?_; clear H; intro _ H)
              | ((with_reducible refine isStore ?_); refine st1A H ?_; clear H; intro _ H)
              | ((with_reducible refine isBox ?_); refine bxA H ?_; clear H; intro _ _ H)
              | ((with_reducible refine isAlloc ?_); refine alA H ?_; clear H; intro _ _ H))
          have hX := nextH_any (m' := (g4, 31, [.slice B k c, .slice B2 k2 c2, .slice none 0 0, .slice none 0 0, .slice none 0 0, .bool false, .string ⟨#[]⟩, .string ⟨#[]⟩]) :: (g3, 93, [S2.sn.sn.v]) :: (g2, 31, [.slice none 0 0, .slice none 0 0, .slice none 0 0, .slice none 0 0, .slice none 0 0, .bool false, .string ⟨#[]⟩, .string ⟨#[]⟩]) :: (rowE (.slice B2 k2 c2) 40 cur2 ++ E2)) S2.sn g3 30 H HT1 (Lib.hid (by (repeat (first | apply Upd.head | apply Upd.tail | assumption)))) (by decide) (by decide)
          rw [hp2] at hX
          refine hX.mono ?_
          clear hX
          rintro _ _ ⟨rfl, H2⟩
          clear H
          have H := Lib.hid H2
          clear H2
          go_wp2_with (first
              | go_skip
              | ((with_reducible refine isLoad ?_); refine ldA H ?_)
              | ((with_reducible refine isLoad ?_); refine ld1A H ?_)
              | ((with_reducible refine isStore ?_); refine stA H ?_; clear H; intro _ H)
              | ((with_reducible refine isStore ?_); refine st1A H ?_; clear H; intro _ H)
              | ((with_reducible refine isBox ?_); refine bxA H ?_; clear H; intro _ _ H)
              | ((with_reducible refine isAlloc ?_); refine alA H ?_; clear H; intro _ _ H))
          by_cases h3 : p3 = 1
          · subst h3
            obtain ⟨yy, hyy⟩ : ∃ q : Int, -y0 - 6 = q := ⟨_, rfl⟩
            have v5 : IntKind.i64.wrap (-y0) = -y0 := IntWalk.i64_in _ (by omega)
            have v6 : IntKind.i64.wrap (-y0 - 6) = yy := by rw [hyy]; exact IntWalk.i64_in _ (by omega)
            have byy : -50 ≤ yy ∧ yy ≤ 50 := by omega
            clear hyy
            obtain ⟨y1, hy1⟩ : ∃ q : Int, yy + 1 = q := ⟨_, rfl⟩
            obtain ⟨vv, hvv⟩ : ∃ q : Int, y1 + p5 = q := ⟨_, rfl⟩
            have v7 : IntKind.i64.wrap (yy + 1) = y1 := by rw [hy1]; exact IntWalk.i64_in _ (by omega)
            have v8 : IntKind.i64.wrap (y1 + p5) = vv := by rw [hvv]; exact IntWalk.i64_in _ (by omega)
            have bv : yy < vv ∧ vv ≤ 1000 := by omega
            have HP4 := Lib.hid hp4
            have HP5 := Lib.hid hp5
            clear hy1 hvv hp4 hp5
            have hX := nextH_any (m' := (g4, 31, [.slice B k c, .slice B2 k2 c2, .slice none 0 0, .slice none 0 0, .slice none 0 0, .bool false, .string ⟨#[]⟩, .string ⟨#[]⟩]) :: (g3, 93, [S2.sn.sn.sn.v]) :: (g2, 31, [.slice none 0 0, .slice none 0 0, .slice none 0 0, .slice none 0 0, .slice none 0 0, .bool false, .string ⟨#[]⟩, .string ⟨#[]⟩]) :: (rowE (.slice B2 k2 c2) 40 cur2 ++ E2)) S2.sn.sn g3 2 H HT2 (Lib.hid (by (repeat (first | apply Upd.head | apply Upd.tail | assumption)))) (by decide) (by decide)
            rw [hp3] at hX
            refine hX.mono ?_
            clear hX
            rintro _ _ ⟨rfl, H2⟩
            clear H
            have H := Lib.hid H2
            clear H2
            go_wp2_with (first
                | go_skip
                | ((with_reducible refine isLoad ?_); refine ldA H ?_)
                | ((with_reducible refine isLoad ?_); refine ld1A H ?_)
                | ((with_reducible refine isStore ?_); refine stA H ?_; clear H; intro _ H)
                | ((with_reducible refine isStore ?_); refine st1A H ?_; clear H; intro _ H)
                | ((with_reducible refine isBox ?_); refine bxA H ?_; clear H; intro _ _ H)
                | ((with_reducible refine isAlloc ?_); refine alA H ?_; clear H; intro _ _ H))
            refine wp_region_Y 18 [.c (.pointer (some ⟨g4, 1, none⟩)), .c (.slice B2 k2 c2), .c (.int .i64 xx), .c (.int .i64 yy), .c (.int .i64 xx), .c (.int .i64 x1), .c (.pointer (some ⟨g3, 0, none⟩)), .y, .c (.int .i64 uu), .c (.int .i64 yy), .c (.int .i64 y1), .c (.pointer (some ⟨g3, 0, none⟩)), .y, .c (.int .i64 vv), .y, .a, .y, .c (.pointer (some ⟨g4, 1, none⟩))] ([(g4, 31, [.slice B k c, .slice B2 k2 c2, .slice none 0 0, .slice none 0 0, .slice none 0 0, .bool false, .string ⟨#[]⟩, .string ⟨#[]⟩])]) H (by (repeat (first | exact List.Sublist.refl _ | exact List.nil_sublist _ | exact List.sublist_append_right _ _ | refine List.Sublist.cons_cons _ ?_ | refine List.Sublist.cons _ ?_))) (by kernel_rfl) (by kernel_rfl) (by kernel_rfl) ?_
            simp only [List.take_succ_cons, List.take_zero, List.drop_succ_cons, List.drop_zero]
            refine wpY_c (by rfl) (by (first | exact wanted_none rfl | exact wanted_some rfl rfl)) (by intro W _; first | (go_simp; rfl) | (go_simp; done) | (trace_state; fail)) ?_
            (simp only [Act.put, List.setIfInBounds_toArray, List.set_cons_succ, List.set_cons_zero])
            refine wpY_load1 (by rfl) (by rfl) (by (first | exact wanted_none rfl | exact wanted_some rfl rfl)) kWalls (by rfl) (by (repeat (first | exact List.Mem.head _ | refine List.Mem.tail _ ?_ | assumption))) (by rfl) ?_
            (simp only [Act.put, List.setIfInBounds_toArray, List.set_cons_succ, List.set_cons_zero])
            refine wpY_c (by rfl) (by (first | exact wanted_none rfl | exact wanted_some rfl rfl)) (by intro W _; first | (go_simp; rfl) | (go_simp; done) | (trace_state; fail)) ?_
            (simp only [Act.put, List.setIfInBounds_toArray, List.set_cons_succ, List.set_cons_zero])
            refine wpY_c (by rfl) (by (first | exact wanted_none rfl | exact wanted_some rfl rfl)) (by intro W _; first | (go_simp; rfl) | (go_simp; done) | (trace_state; fail)) ?_
            (simp only [Act.put, List.setIfInBounds_toArray, List.set_cons_succ, List.set_cons_zero])
            refine wpY_c (by rfl) (by (first | exact wanted_none rfl | exact wanted_some rfl rfl)) (by intro W _; first | (go_simp; rfl) | (go_simp; done) | (trace_state; fail)) ?_
            (simp only [Act.put, List.setIfInBounds_toArray, List.set_cons_succ, List.set_cons_zero])
            refine wpY_c (by rfl) (by (first | exact wanted_none rfl | exact wanted_some rfl rfl)) (by intro W _; first | (go_simp; rfl) | (go_simp; done) | (trace_state; fail)) ?_
            (simp only [Act.put, List.setIfInBounds_toArray, List.set_cons_succ, List.set_cons_zero])
            refine wpY_c (by rfl) (by (first | exact wanted_none rfl | exact wanted_some rfl rfl)) (by intro W _; first | (go_simp; rfl) | (go_simp; done) | (trace_state; fail)) ?_
            (simp only [Act.put, List.setIfInBounds_toArray, List.set_cons_succ, List.set_cons_zero])
            refine wpY_y (by rfl) (by (first | exact wanted_none rfl | exact wanted_some rfl rfl)) (fun G F W HF hG => ?_)
            go_simp
            unfold upY
            have hX := nextH_any (m' := ((g4, 31, [.slice B k c, .slice B2 k2 c2, .slice none 0 0, .slice none 0 0, .slice none 0 0, .bool false, .string ⟨#[]⟩, .string ⟨#[]⟩]) :: (g3, 93, [S2.sn.sn.sn.sn.v]) :: (g2, 31, [.slice none 0 0, .slice none 0 0, .slice none 0 0, .slice none 0 0, .slice none 0 0, .bool false, .string ⟨#[]⟩, .string ⟨#[]⟩]) :: (rowE (.slice B2 k2 c2) 40 cur2 ++ E2)) ++ F) S2.sn.sn.sn g3 20 HF HT3 (Lib.hid (by (repeat (first | apply Upd.head | apply Upd.tail | assumption)))) (by decide) (by decide)
            rw [HP4.out] at hX
            refine Calls.mono hX ?_
            clear hX
            rintro _ W2 ⟨rfl, h2⟩
            refine ⟨_, rfl, hG _ _ ((g4, 31, [.slice B k c, .slice B2 k2 c2, .slice none 0 0, .slice none 0 0, .slice none 0 0, .bool false, .string ⟨#[]⟩, .string ⟨#[]⟩]) :: (g3, 93, [S2.sn.sn.sn.sn.v]) :: (g2, 31, [.slice none 0 0, .slice none 0 0, .slice none 0 0, .slice none 0 0, .slice none 0 0, .bool false, .string ⟨#[]⟩, .string ⟨#[]⟩]) :: (rowE (.slice B2 k2 c2) 40 cur2 ++ E2)) h2 (by (repeat (first | exact List.Sublist.refl _ | exact List.nil_sublist _ | exact List.sublist_append_right _ _ | refine List.Sublist.cons_cons _ ?_ | refine List.Sublist.cons _ ?_))) (Upd.fixed (b := g3) (T := 93) (by (repeat (first | apply Upd.head | apply Upd.tail | assumption))) (by rfl)) ?_⟩
            clear HF hG h2
            clear G F W W2
            (simp only [Act.put, List.setIfInBounds_toArray, List.set_cons_succ, List.set_cons_zero])
            refine wpY_c (by rfl) (by (first | exact wanted_none rfl | exact wanted_some rfl rfl)) (by intro W _; first | (go_simp; rfl) | (go_simp; done) | (trace_state; fail)) ?_
            (simp only [Act.put, List.setIfInBounds_toArray, List.set_cons_succ, List.set_cons_zero])
            refine wpY_c (by rfl) (by (first | exact wanted_none rfl | exact wanted_some rfl rfl)) (by intro W _; first | (go_simp; rfl) | (go_simp; done) | (trace_state; fail)) ?_
            (simp only [Act.put, List.setIfInBounds_toArray, List.set_cons_succ, List.set_cons_zero])
            refine wpY_c (by rfl) (by (first | exact wanted_none rfl | exact wanted_some rfl rfl)) (by intro W _; first | (go_simp; rfl) | (go_simp; done) | (trace_state; fail)) ?_
            (simp only [Act.put, List.setIfInBounds_toArray, List.set_cons_succ, List.set_cons_zero])
            refine wpY_c (by rfl) (by (first | exact wanted_none rfl | exact wanted_some rfl rfl)) (by intro W _; first | (go_simp; rfl) | (go_simp; done) | (trace_state; fail)) ?_
            (simp only [Act.put, List.setIfInBounds_toArray, List.set_cons_succ, List.set_cons_zero])
            refine wpY_y (by rfl) (by (first | exact wanted_none rfl | exact wanted_some rfl rfl)) (fun G F W HF hG => ?_)
            go_simp
            unfold upY
            have hX := nextH_any (m' := ((g4, 31, [.slice B k c, .slice B2 k2 c2, .slice none 0 0, .slice none 0 0, .slice none 0 0, .bool false, .string ⟨#[]⟩, .string ⟨#[]⟩]) :: (g3, 93, [S2.sn.sn.sn.sn.sn.v]) :: (g2, 31, [.slice none 0 0, .slice none 0 0, .slice none 0 0, .slice none 0 0, .slice none 0 0, .bool false, .string ⟨#[]⟩, .string ⟨#[]⟩]) :: (rowE (.slice B2 k2 c2) 40 cur2 ++ E2)) ++ F) S2.sn.sn.sn.sn g3 5 HF HT4 (Lib.hid (by (repeat (first | apply Upd.head | apply Upd.tail | assumption)))) (by decide) (by decide)
            rw [HP5.out] at hX
            refine Calls.mono hX ?_
            clear hX
            rintro _ W2 ⟨rfl, h2⟩
            refine ⟨_, rfl, hG _ _ ((g4, 31, [.slice B k c, .slice B2 k2 c2, .slice none 0 0, .slice none 0 0, .slice none 0 0, .bool false, .string ⟨#[]⟩, .string ⟨#[]⟩]) :: (g3, 93, [S2.sn.sn.sn.sn.sn.v]) :: (g2, 31, [.slice none 0 0, .slice none 0 0, .slice none 0 0, .slice none 0 0, .slice none 0 0, .bool false, .string ⟨#[]⟩, .string ⟨#[]⟩]) :: (rowE (.slice B2 k2 c2) 40 cur2 ++ E2)) h2 (by (repeat (first | exact List.Sublist.refl _ | exact List.nil_sublist _ | exact List.sublist_append_right _ _ | refine List.Sublist.cons_cons _ ?_ | refine List.Sublist.cons _ ?_))) (Upd.fixed (b := g3) (T := 93) (by (repeat (first | apply Upd.head | apply Upd.tail | assumption))) (by rfl)) ?_⟩
            clear HF hG h2
            clear G F W W2
            (simp only [Act.put, List.setIfInBounds_toArray, List.set_cons_succ, List.set_cons_zero])
            refine wpY_c (by rfl) (by (first | exact wanted_none rfl | exact wanted_some rfl rfl)) (by intro W _; first | (go_simp; rfl) | (go_simp; done) | (trace_state; fail)) ?_
            (simp only [Act.put, List.setIfInBounds_toArray, List.set_cons_succ, List.set_cons_zero])
            refine wpY_y (by rfl) (by (first | exact wanted_none rfl | exact wanted_some rfl rfl)) (fun G F W HF hG => ?_)
            go_simp
            unfold upY
            refine Calls.mono (rect_any xx yy uu vv W (by omega) (by omega) (by omega) (by omega) HF.out.tb) ?_
            rintro _ W2 ⟨br, rfl, h2⟩
            refine ⟨_, rfl, hG _ _ ((br, 44, vecC (rectI xx yy uu vv)) :: ((g4, 31, [.slice B k c, .slice B2 k2 c2, .slice none 0 0, .slice none 0 0, .slice none 0 0, .bool false, .string ⟨#[]⟩, .string ⟨#[]⟩]) :: (g3, 93, [S2.sn.sn.sn.sn.sn.v]) :: (g2, 31, [.slice none 0 0, .slice none 0 0, .slice none 0 0, .slice none 0 0, .slice none 0 0, .bool false, .string ⟨#[]⟩, .string ⟨#[]⟩]) :: (rowE (.slice B2 k2 c2) 40 cur2 ++ E2))) (HF.out.join h2) (by (repeat (first | exact List.Sublist.refl _ | exact List.nil_sublist _ | exact List.sublist_append_right _ _ | refine List.Sublist.cons_cons _ ?_ | refine List.Sublist.cons _ ?_))) (fix_cons (fun x _ => Iff.rfl) (by rfl)) ?_⟩
            clear HF hG h2
            clear G F W W2
            (simp only [Act.put, List.setIfInBounds_toArray, List.set_cons_succ, List.set_cons_zero])
            refine wpY_V 40 ([.slice (some ⟨br, 0, none⟩) 4 4]) 1 (by rfl) (by rfl) (by intro W; kernel_rfl) ?_
            intro b5
            (simp only [Act.put, List.setIfInBounds_toArray, List.set_cons_succ, List.set_cons_zero])
            refine wpY_app [(b5, 40, [.slice (some ⟨br, 0, none⟩) 4 4]), (br, 44, vecC (rectI xx yy uu vv)), (g4, 31, [.slice B k c, .slice B2 k2 c2, .slice none 0 0, .slice none 0 0, .slice none 0 0, .bool false, .string ⟨#[]⟩, .string ⟨#[]⟩]), (g3, 93, [S2.sn.sn.sn.sn.sn.v]), (g2, 31, [.slice none 0 0, .slice none 0 0, .slice none 0 0, .slice none 0 0, .slice none 0 0, .bool false, .string ⟨#[]⟩, .string ⟨#[]⟩])] (E2) (by rfl) (by (first | exact wanted_none rfl | exact wanted_some rfl rfl)) R iVcs (by decide) uWalls (by rfl) (by rfl) (by rfl) (.head _) (by rfl) (by rfl) (by decide) (by unfold maxLen; omega) (by omega) (by rfl) (by intro x hx; rw [List.mem_singleton.1 hx]; exact List.mem_append_left _ (by (repeat (first | exact List.Mem.head _ | refine List.Mem.tail _ ?_ | assumption)))) (by rfl) (fun v4 cur4 R4 => ?_)
            obtain ⟨B4, c4, hv4, hc4⟩ := R4.out.shape
            subst hv4
            clear hc4
            (simp only [Act.put, List.setIfInBounds_toArray, List.set_cons_succ, List.set_cons_zero])
            refine wpY_c (by rfl) (by (first | exact wanted_none rfl | exact wanted_some rfl rfl)) (by intro W _; first | (go_simp; rfl) | (go_simp; done) | (trace_state; fail)) ?_
            (simp only [Act.put, List.setIfInBounds_toArray, List.set_cons_succ, List.set_cons_zero])
            refine wpY_nil ?_
            clear H
            intro _ H
            go_wp2_with (first
                | go_skip
                | ((with_reducible refine isStore ?_); refine st1A (hT := sWalls) H ?_; clear H; intro _ H)
                | ((with_reducible refine isLoad ?_); refine ldA H ?_)
                | ((with_reducible refine isLoad ?_); refine ld1A H ?_)
                | ((with_reducible refine isStore ?_); refine stA H ?_; clear H; intro _ H)
                | ((with_reducible refine isStore ?_); refine st1A H ?_; clear H; intro _ H)
                | ((with_reducible refine isBox ?_); refine bxA H ?_; clear H; intro _ _ H)
                | ((with_reducible refine isAlloc ?_); refine alA H ?_; clear H; intro _ _ H))
            have H5 := Lib.hid (H.out.drop.perm (perm_in (br, 44, vecC (rectI xx yy uu vv)) [(g4, 31, [.slice B k c, .slice B4 (k2 + 1) c4, .slice none 0 0, .slice none 0 0, .slice none 0 0, .bool false, .string ⟨#[]⟩, .string ⟨#[]⟩]), (g3, 93, [S2.sn.sn.sn.sn.sn.v]), (g2, 31, [.slice none 0 0, .slice none 0 0, .slice none 0 0, .slice none 0 0, .slice none 0 0, .bool false, .string ⟨#[]⟩, .string ⟨#[]⟩])] (rowE (.slice B4 (k2 + 1) c4) 40 cur4) E2))
            have HW5 : Hid (∀ x ∈ ws ++ [(⟨some ⟨br, 0, none⟩, 4, 4, rectI xx yy uu vv⟩ : WalE)], WOK x ∧ VIE ((br, 44, vecC (rectI xx yy uu vv)) :: E2) x.sh x.l) := fun x hx => by
              rcases List.mem_append.1 hx with hx | hx
              · exact ⟨(HW.out x hx).1, (HW.out x hx).2.mono fun y hy => .tail _ hy⟩
              · rw [List.mem_singleton.1 hx]
                exact ⟨⟨xx, yy, uu, vv, rfl, by omega, by omega, by omega, by omega, by omega, by omega⟩, br, 4, [], rfl, Nat.le_refl _, by rw [List.append_nil]; exact .head _⟩
            have R5 : Hid (RowV 1 (.slice B4 (k2 + 1) c4) (k2 + 1) (flat walC (ws ++ [(⟨some ⟨br, 0, none⟩, 4, 4, rectI xx yy uu vv⟩ : WalE)])) cur4) := by rw [flat_append, flat_one]; exact R4
            clear H HW R R4
            go_roundw
            case rel => exact ⟨k2 + 1, S2.sn.sn.sn.sn.sn, B4, c4, _, cur4, _, by go_num, by omega, HT5, R5, by (rw [List.length_append, hwl]; rfl), HW5, H5⟩
            case measure => simp [intOf]; omega
          · skip
            obtain ⟨y1, hy1⟩ : ∃ q : Int, y0 + 1 = q := ⟨_, rfl⟩
            obtain ⟨vv, hvv⟩ : ∃ q : Int, y1 + p5 = q := ⟨_, rfl⟩
            have v7 : IntKind.i64.wrap (y0 + 1) = y1 := by rw [hy1]; exact IntWalk.i64_in _ (by omega)
            have v8 : IntKind.i64.wrap (y1 + p5) = vv := by rw [hvv]; exact IntWalk.i64_in _ (by omega)
            have bv : y0 < vv ∧ vv ≤ 1000 := by omega
            have HP4 := Lib.hid hp4
            have HP5 := Lib.hid hp5
            clear hy1 hvv hp4 hp5
            have hX := nextH_any (m' := (g4, 31, [.slice B k c, .slice B2 k2 c2, .slice none 0 0, .slice none 0 0, .slice none 0 0, .bool false, .string ⟨#[]⟩, .string ⟨#[]⟩]) :: (g3, 93, [S2.sn.sn.sn.v]) :: (g2, 31, [.slice none 0 0, .slice none 0 0, .slice none 0 0, .slice none 0 0, .slice none 0 0, .bool false, .string ⟨#[]⟩, .string ⟨#[]⟩]) :: (rowE (.slice B2 k2 c2) 40 cur2 ++ E2)) S2.sn.sn g3 2 H HT2 (Lib.hid (by (repeat (first | apply Upd.head | apply Upd.tail | assumption)))) (by decide) (by decide)
            rw [hp3] at hX
            refine hX.mono ?_
            clear hX
            rintro _ _ ⟨rfl, H2⟩
            clear H
            have H := Lib.hid H2
            clear H2
            go_wp2_with (first
                | go_skip
                | ((with_reducible refine isLoad ?_); refine ldA H ?_)
                | ((with_reducible refine isLoad ?_); refine ld1A H ?_)
                | ((with_reducible refine isStore ?_); refine stA H ?_; clear H; intro _ H)
                | ((with_reducible refine isStore ?_); refine st1A H ?_; clear H; intro _ H)
                | ((with_reducible refine isBox ?_); refine bxA H ?_; clear H; intro _ _ H)
                | ((with_reducible refine isAlloc ?_); refine alA H ?_; clear H; intro _ _ H))
            refine wp_region_Y 18 [.c (.pointer (some ⟨g4, 1, none⟩)), .c (.slice B2 k2 c2), .c (.int .i64 xx), .c (.int .i64 y0), .c (.int .i64 xx), .c (.int .i64 x1), .c (.pointer (some ⟨g3, 0, none⟩)), .y, .c (.int .i64 uu), .c (.int .i64 y0), .c (.int .i64 y1), .c (.pointer (some ⟨g3, 0, none⟩)), .y, .c (.int .i64 vv), .y, .a, .y, .c (.pointer (some ⟨g4, 1, none⟩))] ([(g4, 31, [.slice B k c, .slice B2 k2 c2, .slice none 0 0, .slice none 0 0, .slice none 0 0, .bool false, .string ⟨#[]⟩, .string ⟨#[]⟩])]) H (by (repeat (first | exact List.Sublist.refl _ | exact List.nil_sublist _ | exact List.sublist_append_right _ _ | refine List.Sublist.cons_cons _ ?_ | refine List.Sublist.cons _ ?_))) (by kernel_rfl) (by kernel_rfl) (by kernel_rfl) ?_
            simp only [List.take_succ_cons, List.take_zero, List.drop_succ_cons, List.drop_zero]
            refine wpY_c (by rfl) (by (first | exact wanted_none rfl | exact wanted_some rfl rfl)) (by intro W _; first | (go_simp; rfl) | (go_simp; done) | (trace_state; fail)) ?_
            (simp only [Act.put, List.setIfInBounds_toArray, List.set_cons_succ, List.set_cons_zero])
            refine wpY_load1 (by rfl) (by rfl) (by (first | exact wanted_none rfl | exact wanted_some rfl rfl)) kWalls (by rfl) (by (repeat (first | exact List.Mem.head _ | refine List.Mem.tail _ ?_ | assumption))) (by rfl) ?_
            (simp only [Act.put, List.setIfInBounds_toArray, List.set_cons_succ, List.set_cons_zero])
            refine wpY_c (by rfl) (by (first | exact wanted_none rfl | exact wanted_some rfl rfl)) (by intro W _; first | (go_simp; rfl) | (go_simp; done) | (trace_state; fail)) ?_
            (simp only [Act.put, List.setIfInBounds_toArray, List.set_cons_succ, List.set_cons_zero])
            refine wpY_c (by rfl) (by (first | exact wanted_none rfl | exact wanted_some rfl rfl)) (by intro W _; first | (go_simp; rfl) | (go_simp; done) | (trace_state; fail)) ?_
            (simp only [Act.put, List.setIfInBounds_toArray, List.set_cons_succ, List.set_cons_zero])
            refine wpY_c (by rfl) (by (first | exact wanted_none rfl | exact wanted_some rfl rfl)) (by intro W _; first | (go_simp; rfl) | (go_simp; done) | (trace_state; fail)) ?_
            (simp only [Act.put, List.setIfInBounds_toArray, List.set_cons_succ, List.set_cons_zero])
            refine wpY_c (by rfl) (by (first | exact wanted_none rfl | exact wanted_some rfl rfl)) (by intro W _; first | (go_simp; rfl) | (go_simp; done) | (trace_state; fail)) ?_
            (simp only [Act.put, List.setIfInBounds_toArray, List.set_cons_succ, List.set_cons_zero])
            refine wpY_c (by rfl) (by (first | exact wanted_none rfl | exact wanted_some rfl rfl)) (by intro W _; first | (go_simp; rfl) | (go_simp; done) | (trace_state; fail)) ?_
            (simp only [Act.put, List.setIfInBounds_toArray, List.set_cons_succ, List.set_cons_zero])
            refine wpY_y (by rfl) (by (first | exact wanted_none rfl | exact wanted_some rfl rfl)) (fun G F W HF hG => ?_)
            go_simp
            unfold upY
            have hX := nextH_any (m' := ((g4, 31, [.slice B k c, .slice B2 k2 c2, .slice none 0 0, .slice none 0 0, .slice none 0 0, .bool false, .string ⟨#[]⟩, .string ⟨#[]⟩]) :: (g3, 93, [S2.sn.sn.sn.sn.v]) :: (g2, 31, [.slice none 0 0, .slice none 0 0, .slice none 0 0, .slice none 0 0, .slice none 0 0, .bool false, .string ⟨#[]⟩, .string ⟨#[]⟩]) :: (rowE (.slice B2 k2 c2) 40 cur2 ++ E2)) ++ F) S2.sn.sn.sn g3 20 HF HT3 (Lib.hid (by (repeat (first | apply Upd.head | apply Upd.tail | assumption)))) (by decide) (by decide)
            rw [HP4.out] at hX
            refine Calls.mono hX ?_
            clear hX
            rintro _ W2 ⟨rfl, h2⟩
            refine ⟨_, rfl, hG _ _ ((g4, 31, [.slice B k c, .slice B2 k2 c2, .slice none 0 0, .slice none 0 0, .slice none 0 0, .bool false, .string ⟨#[]⟩, .string ⟨#[]⟩]) :: (g3, 93, [S2.sn.sn.sn.sn.v]) :: (g2, 31, [.slice none 0 0, .slice none 0 0, .slice none 0 0, .slice none 0 0, .slice none 0 0, .bool false, .string ⟨#[]⟩, .string ⟨#[]⟩]) :: (rowE (.slice B2 k2 c2) 40 cur2 ++ E2)) h2 (by (repeat (first | exact List.Sublist.refl _ | exact List.nil_sublist _ | exact List.sublist_append_right _ _ | refine List.Sublist.cons_cons _ ?_ | refine List.Sublist.cons _ ?_))) (Upd.fixed (b := g3) (T := 93) (by (repeat (first | apply Upd.head | apply Upd.tail | assumption))) (by rfl)) ?_⟩
            clear HF hG h2
            clear G F W W2
            (simp only [Act.put, List.setIfInBounds_toArray, List.set_cons_succ, List.set_cons_zero])
            refine wpY_c (by rfl) (by (first | exact wanted_none rfl | exact wanted_some rfl rfl)) (by intro W _; first | (go_simp; rfl) | (go_simp; done) | (trace_state; fail)) ?_
            (simp only [Act.put, List.setIfInBounds_toArray, List.set_cons_succ, List.set_cons_zero])
            refine wpY_c (by rfl) (by (first | exact wanted_none rfl | exact wanted_some rfl rfl)) (by intro W _; first | (go_simp; rfl) | (go_simp; done) | (trace_state; fail)) ?_
            (simp only [Act.put, List.setIfInBounds_toArray, List.set_cons_succ, List.set_cons_zero])
            refine wpY_c (by rfl) (by (first | exact wanted_none rfl | exact wanted_some rfl rfl)) (by intro W _; first | (go_simp; rfl) | (go_simp; done) | (trace_state; fail)) ?_
            (simp only [Act.put, List.setIfInBounds_toArray, List.set_cons_succ, List.set_cons_zero])
            refine wpY_c (by rfl) (by (first | exact wanted_none rfl | exact wanted_some rfl rfl)) (by intro W _; first | (go_simp; rfl) | (go_simp; done) | (trace_state; fail)) ?_
            (simp only [Act.put, List.setIfInBounds_toArray, List.set_cons_succ, List.set_cons_zero])
            refine wpY_y (by rfl) (by (first | exact wanted_none rfl | exact wanted_some rfl rfl)) (fun G F W HF hG => ?_)
            go_simp
            unfold upY
            have hX := nextH_any (m' := ((g4, 31, [.slice B k c, .slice B2 k2 c2, .slice none 0 0, .slice none 0 0, .slice none 0 0, .bool false, .string ⟨#[]⟩, .string ⟨#[]⟩]) :: (g3, 93, [S2.sn.sn.sn.sn.sn.v]) :: (g2, 31, [.slice none 0 0, .slice none 0 0, .slice none 0 0, .slice none 0 0, .slice none 0 0, .bool false, .string ⟨#[]⟩, .string ⟨#[]⟩]) :: (rowE (.slice B2 k2 c2) 40 cur2 ++ E2)) ++ F) S2.sn.sn.sn.sn g3 5 HF HT4 (Lib.hid (by (repeat (first | apply Upd.head | apply Upd.tail | assumption)))) (by decide) (by decide)
            rw [HP5.out] at hX
            refine Calls.mono hX ?_
            clear hX
            rintro _ W2 ⟨rfl, h2⟩
            refine ⟨_, rfl, hG _ _ ((g4, 31, [.slice B k c, .slice B2 k2 c2, .slice none 0 0, .slice none 0 0, .slice none 0 0, .bool false, .string ⟨#[]⟩, .string ⟨#[]⟩]) :: (g3, 93, [S2.sn.sn.sn.sn.sn.v]) :: (g2, 31, [.slice none 0 0, .slice none 0 0, .slice none 0 0, .slice none 0 0, .slice none 0 0, .bool false, .string ⟨#[]⟩, .string ⟨#[]⟩]) :: (rowE (.slice B2 k2 c2) 40 cur2 ++ E2)) h2 (by (repeat (first | exact List.Sublist.refl _ | exact List.nil_sublist _ | exact List.sublist_append_right _ _ | refine List.Sublist.cons_cons _ ?_ | refine List.Sublist.cons _ ?_))) (Upd.fixed (b := g3) (T := 93) (by (repeat (first | apply Upd.head | apply Upd.tail | assumption))) (by rfl)) ?_⟩
            clear HF hG h2
            clear G F W W2
            (simp only [Act.put, List.setIfInBounds_toArray, List.set_cons_succ, List.set_cons_zero])
            refine wpY_c (by rfl) (by (first | exact wanted_none rfl | exact wanted_some rfl rfl)) (by intro W _; first | (go_simp; rfl) | (go_simp; done) | (trace_state; fail)) ?_
            (simp only [Act.put, List.setIfInBounds_toArray, List.set_cons_succ, List.set_cons_zero])
            refine wpY_y (by rfl) (by (first | exact wanted_none rfl | exact wanted_some rfl rfl)) (fun G F W HF hG => ?_)
            go_simp
            unfold upY
            refine Calls.mono (rect_any xx y0 uu vv W (by omega) (by omega) (by omega) (by omega) HF.out.tb) ?_
            rintro _ W2 ⟨br, rfl, h2⟩
            refine ⟨_, rfl, hG _ _ ((br, 44, vecC (rectI xx y0 uu vv)) :: ((g4, 31, [.slice B k c, .slice B2 k2 c2, .slice none 0 0, .slice none 0 0, .slice none 0 0, .bool false, .string ⟨#[]⟩, .string ⟨#[]⟩]) :: (g3, 93, [S2.sn.sn.sn.sn.sn.v]) :: (g2, 31, [.slice none 0 0, .slice none 0 0, .slice none 0 0, .slice none 0 0, .slice none 0 0, .bool false, .string ⟨#[]⟩, .string ⟨#[]⟩]) :: (rowE (.slice B2 k2 c2) 40 cur2 ++ E2))) (HF.out.join h2) (by (repeat (first | exact List.Sublist.refl _ | exact List.nil_sublist _ | exact List.sublist_append_right _ _ | refine List.Sublist.cons_cons _ ?_ | refine List.Sublist.cons _ ?_))) (fix_cons (fun x _ => Iff.rfl) (by rfl)) ?_⟩
            clear HF hG h2
            clear G F W W2
            (simp only [Act.put, List.setIfInBounds_toArray, List.set_cons_succ, List.set_cons_zero])
            refine wpY_V 40 ([.slice (some ⟨br, 0, none⟩) 4 4]) 1 (by rfl) (by rfl) (by intro W; kernel_rfl) ?_
            intro b5
            (simp only [Act.put, List.setIfInBounds_toArray, List.set_cons_succ, List.set_cons_zero])
            refine wpY_app [(b5, 40, [.slice (some ⟨br, 0, none⟩) 4 4]), (br, 44, vecC (rectI xx y0 uu vv)), (g4, 31, [.slice B k c, .slice B2 k2 c2, .slice none 0 0, .slice none 0 0, .slice none 0 0, .bool false, .string ⟨#[]⟩, .string ⟨#[]⟩]), (g3, 93, [S2.sn.sn.sn.sn.sn.v]), (g2, 31, [.slice none 0 0, .slice none 0 0, .slice none 0 0, .slice none 0 0, .slice none 0 0, .bool false, .string ⟨#[]⟩, .string ⟨#[]⟩])] (E2) (by rfl) (by (first | exact wanted_none rfl | exact wanted_some rfl rfl)) R iVcs (by decide) uWalls (by rfl) (by rfl) (by rfl) (.head _) (by rfl) (by rfl) (by decide) (by unfold maxLen; omega) (by omega) (by rfl) (by intro x hx; rw [List.mem_singleton.1 hx]; exact List.mem_append_left _ (by (repeat (first | exact List.Mem.head _ | refine List.Mem.tail _ ?_ | assumption)))) (by rfl) (fun v4 cur4 R4 => ?_)
            obtain ⟨B4, c4, hv4, hc4⟩ := R4.out.shape
            subst hv4
            clear hc4
            (simp only [Act.put, List.setIfInBounds_toArray, List.set_cons_succ, List.set_cons_zero])
            refine wpY_c (by rfl) (by (first | exact wanted_none rfl | exact wanted_some rfl rfl)) (by intro W _; first | (go_simp; rfl) | (go_simp; done) | (trace_state; fail)) ?_
            (simp only [Act.put, List.setIfInBounds_toArray, List.set_cons_succ, List.set_cons_zero])
            refine wpY_nil ?_
            clear H
            intro _ H
            go_wp2_with (first
                | go_skip
                | ((with_reducible refine isStore ?_); refine st1A (hT := sWalls) H ?_; clear H; intro _ H)
                | ((with_reducible refine isLoad ?_); refine ldA H ?_)
                | ((with_reducible refine isLoad ?_); refine ld1A H ?_)
                | ((with_reducible refine isStore ?_); refine stA H ?_; clear H; intro _ H)
                | ((with_reducible refine isStore ?_); refine st1A H ?_; clear H; intro _ H)
                | ((with_reducible refine isBox ?_); refine bxA H ?_; clear H; intro _ _ H)
                | ((with_reducible refine isAlloc ?_); refine alA H ?_; clear H; intro _ _ H))
            have H5 := Lib.hid (H.out.drop.perm (perm_in (br, 44, vecC (rectI xx y0 uu vv)) [(g4, 31, [.slice B k c, .slice B4 (k2 + 1) c4, .slice none 0 0, .slice none 0 0, .slice none 0 0, .bool false, .string ⟨#[]⟩, .string ⟨#[]⟩]), (g3, 93, [S2.sn.sn.sn.sn.sn.v]), (g2, 31, [.slice none 0 0, .slice none 0 0, .slice none 0 0, .slice none 0 0, .slice none 0 0, .bool false, .string ⟨#[]⟩, .string ⟨#[]⟩])] (rowE (.slice B4 (k2 + 1) c4) 40 cur4) E2))
            have HW5 : Hid (∀ x ∈ ws ++ [(⟨some ⟨br, 0, none⟩, 4, 4, rectI xx y0 uu vv⟩ : WalE)], WOK x ∧ VIE ((br, 44, vecC (rectI xx y0 uu vv)) :: E2) x.sh x.l) := fun x hx => by
              rcases List.mem_append.1 hx with hx | hx
              · exact ⟨(HW.out x hx).1, (HW.out x hx).2.mono fun y hy => .tail _ hy⟩
              · rw [List.mem_singleton.1 hx]
                exact ⟨⟨xx, y0, uu, vv, rfl, by omega, by omega, by omega, by omega, by omega, by omega⟩, br, 4, [], rfl, Nat.le_refl _, by rw [List.append_nil]; exact .head _⟩
            have R5 : Hid (RowV 1 (.slice B4 (k2 + 1) c4) (k2 + 1) (flat walC (ws ++ [(⟨some ⟨br, 0, none⟩, 4, 4, rectI xx y0 uu vv⟩ : WalE)])) cur4) := by rw [flat_append, flat_one]; exact R4
            clear H HW R R4
            go_roundw
            case rel => exact ⟨k2 + 1, S2.sn.sn.sn.sn.sn, B4, c4, _, cur4, _, by go_num, by omega, HT5, R5, by (rw [List.length_append, hwl]; rfl), HW5, H5⟩
            case measure => simp [intOf]; omega
        · have hkn2 : k2 = wn := by omega
          subst hkn2
          obtain ⟨E3, hE3⟩ : ∃ E3, rowE (.slice B2 k2 c2) 40 cur2 ++ E2 = E3 := ⟨_, rfl⟩
          have HE3a : Hid (∀ x ∈ rowE (.slice B2 k2 c2) 40 cur2, x ∈ E3) := fun x hx => by rw [← hE3]; exact List.mem_append_left _ hx
          have HW3 : Hid (∀ x ∈ ws, WOK x ∧ VIE E3 x.sh x.l) := fun x hx => ⟨(HW.out x hx).1, (HW.out x hx).2.mono fun y hy => by rw [← hE3]; exact List.mem_append_right _ hy⟩
          rw [hE3] at H
          have R2 := R
          clear hE3 HW R
          obtain ⟨q1, hq1⟩ : ∃ r, S2.nx 3 = r := ⟨_, rfl⟩
          have bq1 : 0 ≤ q1 ∧ q1 < 3 := by rw [← hq1]; exact S2.nx_bd 3 (by decide)
          obtain ⟨bq1l, bq1r⟩ := bq1
          obtain ⟨pn, hpn⟩ : ∃ d : Nat, q1 = d := ⟨q1.toNat, by omega⟩
          have bpn : pn ≤ 2 := by omega
          rw [hpn] at hq1
          have HQ3 := Lib.hid hq1
          have HS3 := Lib.hid HS2.out.next
          clear hpn hq1 bq1l bq1r q1
          go_wp2_with (first
              | go_skip
              | ((with_reducible refine isLoad ?_); refine ldA H ?_)
              | ((with_reducible refine isLoad ?_); refine ld1A H ?_)
              | ((with_reducible refine isStore ?_); refine stA H ?_; clear H; intro _ H)
              | ((with_reducible refine isStore ?_); refine st1A H ?_; clear H; intro _ H)
              | ((with_reducible refine isBox ?_); refine bxA H ?_; clear H; intro _ _ H)
              | ((with_reducible refine isAlloc ?_); refine alA H ?_; clear H; intro _ _ H))
          have hX := nextH_any (m' := (g4, 31, [.slice B k c, .slice B2 k2 c2, .slice none 0 0, .slice none 0 0, .slice none 0 0, .bool false, .string ⟨#[]⟩, .string ⟨#[]⟩]) :: (g3, 93, [S2.sn.v]) :: (g2, 31, [.slice none 0 0, .slice none 0 0, .slice none 0 0, .slice none 0 0, .slice none 0 0, .bool false, .string ⟨#[]⟩, .string ⟨#[]⟩]) :: (E3)) S2 g3 3 H HS2 (Lib.hid (by (repeat (first | apply Upd.head | apply Upd.tail | assumption)))) (by decide) (by decide)
          rw [HQ3.out] at hX
          refine hX.mono ?_
          clear hX
          rintro _ _ ⟨rfl, H2⟩
          clear H
          have H := Lib.hid H2
          clear H2
          go_wp2_with (first
              | go_skip
              | ((with_reducible refine isLoad ?_); refine ldA H ?_)
              | ((with_reducible refine isLoad ?_); refine ld1A H ?_)
              | ((with_reducible refine isStore ?_); refine stA H ?_; clear H; intro _ H)
              | ((with_reducible refine isStore ?_); refine st1A H ?_; clear H; intro _ H)
              | ((with_reducible refine isBox ?_); refine bxA H ?_; clear H; intro _ _ H)
              | ((with_reducible refine isAlloc ?_); refine alA H ?_; clear H; intro _ _ H))
          go_loopw [67] (fun i_ wr => ∃ (k3 : Nat) (S3 : Sd) (B3 : Option Addr) (c3 : Nat) (ps : List PrtE) (cur3 : List Value) (E4 : Ents), i_ = .int .i64 k3 ∧ k3 ≤ pn ∧ Hid (S3.ok w) ∧ Hid (RowV 12 (.slice B3 k3 c3) k3 (flat prtC ps) cur3) ∧ ps.length = k3 ∧ Hid (∀ x ∈ ps, (∃ T, x.l = polyL T) ∧ VIE E4 x.sh x.l) ∧ Hid (∀ x ∈ E3, x ∈ E4) ∧ Hid (Hp w wr ((g4, 31, [.slice B k c, .slice B2 k2 c2, .slice B3 k3 c3, .slice none 0 0, .slice none 0 0, .bool false, .string ⟨#[]⟩, .string ⟨#[]⟩]) :: (g3, 93, [S3.v]) :: (g2, 31, [.slice none 0 0, .slice none 0 0, .slice none 0 0, .slice none 0 0, .slice none 0 0, .bool false, .string ⟨#[]⟩, .string ⟨#[]⟩]) :: (rowE (.slice B3 k3 c3) 50 cur3 ++ E4)))) (fun i_ _ => pn - (intOf i_).toNat)
          case atStart => exact ⟨0, _, none, 0, [], [], E3, rfl, by omega, HS3, RowV.nil 12, rfl, (fun x hx => by cases hx), (fun x hx => hx), H⟩
          case round =>
            clear H HS3
            obtain ⟨k3, S3, B3, c3, ps, cur3, E4, rfl, hk3, HS3, R, hpl, HP, HE4, H⟩ := hrel
            by_cases hlt : k3 < pn
            · have kl : k3 ≤ 1 := by omega
              obtain ⟨nb, hnb⟩ : ∃ b, [Value.string ⟨#[98, 111, 108, 116]⟩, .string ⟨#[110, 117, 116]⟩][k3]? = some (.string b) := by
                rcases k3 with _ | _ | q
                · exact ⟨_, rfl⟩
                · exact ⟨_, rfl⟩
                · omega
              have HNB := Lib.hid hnb
              obtain ⟨gx, Egx⟩ : ∃ z : Rat, Hid (ofQ 0 4 = z) := ⟨_, rfl⟩
              obtain ⟨gt, Egt⟩ : ∃ z : Rat, Hid (ofQ 0 1 = z) := ⟨_, rfl⟩
              have lk2 : (k3 : Int) < 2 := by omega
              have lk2' : k3 < 2 := by omega
              clear hnb
              go_wp2_with (first
                  | go_skip
                  | ((with_reducible refine isStore ?_); refine st1A (hT := sParts) H ?_; clear H; intro _ H)
                  | ((with_reducible refine isLoad ?_); refine ldA H ?_)
                  | ((with_reducible refine isLoad ?_); refine ld1A H ?_)
                  | ((with_reducible refine isStore ?_); refine stA H ?_; clear H; intro _ H)
                  | ((with_reducible refine isStore ?_); refine st1A H ?_; clear H; intro _ H)
                  | ((with_reducible refine isBox ?_); refine bxA H ?_; clear H; intro _ _ H)
                  | ((with_reducible refine isAlloc ?_); refine alA H ?_; clear H; intro _ _ H))
              refine wp_region_YO 16 [0, 1, 3, 6, 7, 8, 9, 10, 11, 2, 4, 5, 12, 13, 14, 15] [.c (.pointer (some ⟨g4, 2, none⟩)), .c (.slice B3 k3 c3), .c (.int .i64 k3), .c (.pointer (some ⟨g3, 0, none⟩)), .y, .y, .y, .c (.agg #[.bool false, .bool (sgO (some gt)), .string (nuO (some gt)), .string (deO (some gt))]), .c (.agg #[.bool (sgO (some gx)), .string (nuO (some gx)), .string (deO (some gx)), .bool (sgO (some gx)), .string (nuO (some gx)), .string (deO (some gx)), .bool false, .bool (sgO (some gt)), .string (nuO (some gt)), .string (deO (some gt))]), .a, .r, .r, .y, .a, .y, .c (.pointer (some ⟨g4, 2, none⟩))] ([(g4, 31, [.slice B k c, .slice B2 k2 c2, .slice B3 k3 c3, .slice none 0 0, .slice none 0 0, .bool false, .string ⟨#[]⟩, .string ⟨#[]⟩])]) H (by (repeat (first | exact List.Sublist.refl _ | exact List.nil_sublist _ | exact List.sublist_append_right _ _ | refine List.Sublist.cons_cons _ ?_ | refine List.Sublist.cons _ ?_))) (by kernel_rfl) (by kernel_rfl) (by kernel_rfl) ?_
              simp only [permL, List.map_cons, List.map_nil, List.getElem?_cons_succ, List.getElem?_cons_zero, Option.getD_some, List.drop_succ_cons, List.drop_zero]
              refine wpY_c (by rfl) (by (first | exact wanted_none rfl | exact wanted_some rfl rfl)) (by intro W _; first | (go_simp; rfl) | (go_simp; done) | (trace_state; fail)) ?_
              (simp only [Act.put, List.setIfInBounds_toArray, List.set_cons_succ, List.set_cons_zero])
              refine wpY_load1 (by rfl) (by rfl) (by (first | exact wanted_none rfl | exact wanted_some rfl rfl)) kParts (by rfl) (by (repeat (first | exact List.Mem.head _ | refine List.Mem.tail _ ?_ | assumption))) (by rfl) ?_
              (simp only [Act.put, List.setIfInBounds_toArray, List.set_cons_succ, List.set_cons_zero])
              refine wpY_c (by rfl) (by (first | exact wanted_none rfl | exact wanted_some rfl rfl)) (by intro W _; first | (go_simp; rfl) | (go_simp; done) | (trace_state; fail)) ?_
              (simp only [Act.put, List.setIfInBounds_toArray, List.set_cons_succ, List.set_cons_zero])
              refine wpY_c (by rfl) (by (first | exact wanted_none rfl | exact wanted_some rfl rfl)) (by intro W _; first | (go_simp; rfl) | (go_simp; done) | (trace_state; fail)) ?_
              (simp only [Act.put, List.setIfInBounds_toArray, List.set_cons_succ, List.set_cons_zero])
              refine wpY_y (by rfl) (by (first | exact wanted_none rfl | exact wanted_some rfl rfl)) (fun G F W HF hG => ?_)
              go_simp
              unfold upY
              refine Calls.mono (poly2_any S3 g3 HF HS3 (by (repeat (first | exact List.Mem.head _ | refine List.Mem.tail _ ?_ | assumption)))) ?_
              rintro _ W2 ⟨bp, S', mm, rfl, hS', um, h2⟩
              have ue : Upd (((g4, 31, [.slice B k c, .slice B2 k2 c2, .slice B3 k3 c3, .slice none 0 0, .slice none 0 0, .bool false, .string ⟨#[]⟩, .string ⟨#[]⟩]) :: (g3, 93, [S3.v]) :: (g2, 31, [.slice none 0 0, .slice none 0 0, .slice none 0 0, .slice none 0 0, .slice none 0 0, .bool false, .string ⟨#[]⟩, .string ⟨#[]⟩]) :: (rowE (.slice B3 k3 c3) 50 cur3 ++ E4)) ++ F) g3 93 [S3.v] [S'.v] (((g4, 31, [.slice B k c, .slice B2 k2 c2, .slice B3 k3 c3, .slice none 0 0, .slice none 0 0, .bool false, .string ⟨#[]⟩, .string ⟨#[]⟩]) :: (g3, 93, [S'.v]) :: (g2, 31, [.slice none 0 0, .slice none 0 0, .slice none 0 0, .slice none 0 0, .slice none 0 0, .bool false, .string ⟨#[]⟩, .string ⟨#[]⟩]) :: (rowE (.slice B3 k3 c3) 50 cur3 ++ E4)) ++ F) := by (repeat (first | apply Upd.head | apply Upd.tail | assumption))
              obtain rfl := Upd.det ue HF.out.nd um
              have HS4 := Lib.hid hS'
              refine ⟨_, rfl, hG _ _ ((bp, 44, vecC (polyL S3)) :: ((g4, 31, [.slice B k c, .slice B2 k2 c2, .slice B3 k3 c3, .slice none 0 0, .slice none 0 0, .bool false, .string ⟨#[]⟩, .string ⟨#[]⟩]) :: (g3, 93, [S'.v]) :: (g2, 31, [.slice none 0 0, .slice none 0 0, .slice none 0 0, .slice none 0 0, .slice none 0 0, .bool false, .string ⟨#[]⟩, .string ⟨#[]⟩]) :: (rowE (.slice B3 k3 c3) 50 cur3 ++ E4))) h2 (by (repeat (first | exact List.Sublist.refl _ | exact List.nil_sublist _ | exact List.sublist_append_right _ _ | refine List.Sublist.cons_cons _ ?_ | refine List.Sublist.cons _ ?_))) (fix_cons (Upd.fixed (b := g3) (T := 93) (by (repeat (first | apply Upd.head | apply Upd.tail | assumption))) (by rfl)) (by rfl)) ?_⟩
              clear HF hG h2 um ue hS'
              clear G F W W2
              (simp only [Act.put, List.setIfInBounds_toArray, List.set_cons_succ, List.set_cons_zero])
              refine wpY_y (by rfl) (by (first | exact wanted_none rfl | exact wanted_some rfl rfl)) (fun G F W HF hG => ?_)
              go_simp
              unfold upY
              refine Calls.mono (makeAt_any 0 0 gx gx _ (by decide) (by decide) HF.out.tb Egx Egx) ?_
              rintro _ W2 ⟨rfl, hb⟩
              refine ⟨_, rfl, hG _ W2 _ (HF.out.go hb) (by (repeat (first | exact List.Sublist.refl _ | exact List.nil_sublist _ | exact List.sublist_append_right _ _ | refine List.Sublist.cons_cons _ ?_ | refine List.Sublist.cons _ ?_))) (fun x _ => Iff.rfl) ?_⟩
              clear hG hb HF
              clear G F W W2
              (simp only [Act.put, List.setIfInBounds_toArray, List.set_cons_succ, List.set_cons_zero])
              refine wpY_y (by rfl) (by (first | exact wanted_none rfl | exact wanted_some rfl rfl)) (fun G F W HF hG => ?_)
              go_simp
              unfold upY
              refine Calls.mono (ofQ_any 0 1 gt _ (by decide) (by decide) (by decide) (by decide) Egt) ?_
              rintro _ W2 ⟨rfl, hb⟩
              refine ⟨_, rfl, hG _ W2 _ (HF.out.go hb) (by (repeat (first | exact List.Sublist.refl _ | exact List.nil_sublist _ | exact List.sublist_append_right _ _ | refine List.Sublist.cons_cons _ ?_ | refine List.Sublist.cons _ ?_))) (fun x _ => Iff.rfl) ?_⟩
              clear hG hb HF
              clear G F W W2
              (simp only [Act.put, List.setIfInBounds_toArray, List.set_cons_succ, List.set_cons_zero])
              refine wpY_c (by rfl) (by (first | exact wanted_none rfl | exact wanted_some rfl rfl)) (by intro W _; first | (go_simp; rfl) | (go_simp; done) | (trace_state; fail)) ?_
              (simp only [Act.put, List.setIfInBounds_toArray, List.set_cons_succ, List.set_cons_zero])
              refine wpY_c (by rfl) (by (first | exact wanted_none rfl | exact wanted_some rfl rfl)) (by intro W _; first | (go_simp; rfl) | (go_simp; done) | (trace_state; fail)) ?_
              (simp only [Act.put, List.setIfInBounds_toArray, List.set_cons_succ, List.set_cons_zero])
              refine wpY_V 9 ([Value.string ⟨#[98, 111, 108, 116]⟩, .string ⟨#[110, 117, 116]⟩]) 2 (by rfl) (by rfl) (by intro W; kernel_rfl) ?_
              intro bl
              (simp only [Act.put, List.setIfInBounds_toArray, List.set_cons_succ, List.set_cons_zero])
              refine wpY_rp (b := bl) (cs := [Value.string ⟨#[98, 111, 108, 116]⟩, .string ⟨#[110, 117, 116]⟩]) (by rfl) (by (first | exact wanted_none rfl | exact wanted_some rfl rfl)) (by (repeat (first | exact List.Mem.head _ | refine List.Mem.tail _ ?_ | assumption))) (by rfl) (by intro W; first | (go_simp; rfl) | go_simp) ?_
              (simp only [Act.put, List.setIfInBounds_toArray, List.set_cons_succ, List.set_cons_zero])
              refine wpY_r (j := k3) (cs := [Value.string ⟨#[98, 111, 108, 116]⟩, .string ⟨#[110, 117, 116]⟩]) (by rfl) (by rfl) (by (first | exact wanted_none rfl | exact wanted_some rfl rfl)) kStr (by rfl) (by omega) (by (repeat (first | exact List.Mem.head _ | refine List.Mem.tail _ ?_ | assumption))) (by rfl) HNB.out ?_
              (simp only [Act.put, List.setIfInBounds_toArray, List.set_cons_succ, List.set_cons_zero])
              refine wpY_p (by rfl) (by (repeat (first | exact List.Sublist.refl _ | exact List.nil_sublist _ | exact List.sublist_append_right _ _ | refine List.Sublist.cons_cons _ ?_ | refine List.Sublist.cons _ ?_))) (by (first | exact wanted_none rfl | exact wanted_some rfl rfl)) (by intro W; first | (go_simp; rfl) | go_simp) ?_
              (simp only [Act.put, List.setIfInBounds_toArray, List.set_cons_succ, List.set_cons_zero])
              refine wpY_V 50 ([.string nb, .slice (some ⟨bp, 0, none⟩) (polyL S3).length (polyL S3).length, .bool (sgO (some gx)), .string (nuO (some gx)), .string (deO (some gx)), .bool (sgO (some gx)), .string (nuO (some gx)), .string (deO (some gx)), .bool false, .bool (sgO (some gt)), .string (nuO (some gt)), .string (deO (some gt))]) 1 (by rfl) (by rfl) (by intro W; kernel_rfl) ?_
              intro b5
              (simp only [Act.put, List.setIfInBounds_toArray, List.set_cons_succ, List.set_cons_zero])
              refine wpY_app [(b5, 50, [.string nb, .slice (some ⟨bp, 0, none⟩) (polyL S3).length (polyL S3).length, .bool (sgO (some gx)), .string (nuO (some gx)), .string (deO (some gx)), .bool (sgO (some gx)), .string (nuO (some gx)), .string (deO (some gx)), .bool false, .bool (sgO (some gt)), .string (nuO (some gt)), .string (deO (some gt))]), (bl, 9, [Value.string ⟨#[98, 111, 108, 116]⟩, .string ⟨#[110, 117, 116]⟩]), (bp, 44, vecC (polyL S3)), (g4, 31, [.slice B k c, .slice B2 k2 c2, .slice B3 k3 c3, .slice none 0 0, .slice none 0 0, .bool false, .string ⟨#[]⟩, .string ⟨#[]⟩]), (g3, 93, [S'.v]), (g2, 31, [.slice none 0 0, .slice none 0 0, .slice none 0 0, .slice none 0 0, .slice none 0 0, .bool false, .string ⟨#[]⟩, .string ⟨#[]⟩])] (E4) (by rfl) (by (first | exact wanted_none rfl | exact wanted_some rfl rfl)) R iPart (by decide) uParts (by rfl) (by rfl) (by rfl) (.head _) (by rfl) (by rfl) (by decide) (by unfold maxLen; omega) (by omega) (by rfl) (by intro x hx; rw [List.mem_singleton.1 hx]; exact List.mem_append_left _ (by (repeat (first | exact List.Mem.head _ | refine List.Mem.tail _ ?_ | assumption)))) (by rfl) (fun v4 cur4 R4 => ?_)
              obtain ⟨B4, c4, hv4, hc4⟩ := R4.out.shape
              subst hv4
              clear hc4
              (simp only [Act.put, List.setIfInBounds_toArray, List.set_cons_succ, List.set_cons_zero])
              refine wpY_c (by rfl) (by (first | exact wanted_none rfl | exact wanted_some rfl rfl)) (by intro W _; first | (go_simp; rfl) | (go_simp; done) | (trace_state; fail)) ?_
              (simp only [Act.put, List.setIfInBounds_toArray, List.set_cons_succ, List.set_cons_zero])
              refine wpY_nil ?_
              clear H
              intro _ H
              go_wp2_with (first
                  | go_skip
                  | ((with_reducible refine isStore ?_); refine st1A (hT := sParts) H ?_; clear H; intro _ H)
                  | ((with_reducible refine isLoad ?_); refine ldA H ?_)
                  | ((with_reducible refine isLoad ?_); refine ld1A H ?_)
                  | ((with_reducible refine isStore ?_); refine stA H ?_; clear H; intro _ H)
                  | ((with_reducible refine isStore ?_); refine st1A H ?_; clear H; intro _ H)
                  | ((with_reducible refine isBox ?_); refine bxA H ?_; clear H; intro _ _ H)
                  | ((with_reducible refine isAlloc ?_); refine alA H ?_; clear H; intro _ _ H))
              have H5 := Lib.hid (H.out.drop.drop.perm (perm_in (bp, 44, vecC (polyL S3)) [(g4, 31, [.slice B k c, .slice B2 k2 c2, .slice B4 (k3 + 1) c4, .slice none 0 0, .slice none 0 0, .bool false, .string ⟨#[]⟩, .string ⟨#[]⟩]), (g3, 93, [S'.v]), (g2, 31, [.slice none 0 0, .slice none 0 0, .slice none 0 0, .slice none 0 0, .slice none 0 0, .bool false, .string ⟨#[]⟩, .string ⟨#[]⟩])] (rowE (.slice B4 (k3 + 1) c4) 50 cur4) E4))
              have HP5 : Hid (∀ x ∈ ps ++ [(⟨nb, some ⟨bp, 0, none⟩, (polyL S3).length, (polyL S3).length, polyL S3, some gx, some gx, some gt⟩ : PrtE)], (∃ T, x.l = polyL T) ∧ VIE ((bp, 44, vecC (polyL S3)) :: E4) x.sh x.l) := fun x hx => by
                rcases List.mem_append.1 hx with hx | hx
                · exact ⟨(HP.out x hx).1, (HP.out x hx).2.mono fun y hy => .tail _ hy⟩
                · rw [List.mem_singleton.1 hx]
                  exact ⟨⟨S3, rfl⟩, bp, (polyL S3).length, [], rfl, Nat.le_refl _, by rw [List.append_nil]; exact .head _⟩
              have HE5 : Hid (∀ x ∈ E3, x ∈ (bp, 44, vecC (polyL S3)) :: E4) := fun x hx => .tail _ (HE4.out x hx)
              have R5 : Hid (RowV 12 (.slice B4 (k3 + 1) c4) (k3 + 1) (flat prtC (ps ++ [(⟨nb, some ⟨bp, 0, none⟩, (polyL S3).length, (polyL S3).length, polyL S3, some gx, some gx, some gt⟩ : PrtE)])) cur4) := by rw [flat_append, flat_one]; exact R4
              clear H HP R R4 HE4
              go_roundw
              case rel => exact ⟨k3 + 1, S', B4, c4, _, cur4, _, by go_num, by omega, HS4, R5, by (rw [List.length_append, hpl]; rfl), HP5, HE5, H5⟩
              case measure => simp [intOf]; omega
            · have hkn3 : k3 = pn := by omega
              subst hkn3
              obtain ⟨E5, hE5⟩ : ∃ E5, rowE (.slice B3 k3 c3) 50 cur3 ++ E4 = E5 := ⟨_, rfl⟩
              have HE5a : Hid (∀ x ∈ rowE (.slice B3 k3 c3) 50 cur3, x ∈ E5) := fun x hx => by rw [← hE5]; exact List.mem_append_left _ hx
              have HE5b : Hid (∀ x ∈ E4, x ∈ E5) := fun x hx => by rw [← hE5]; exact List.mem_append_right _ hx
              have HP5 : Hid (∀ x ∈ ps, (∃ T, x.l = polyL T) ∧ VIE E5 x.sh x.l) := fun x hx => ⟨(HP.out x hx).1, (HP.out x hx).2.mono HE5b.out⟩
              have HW5 : Hid (∀ x ∈ ws, WOK x ∧ VIE E5 x.sh x.l) := fun x hx => ⟨(HW3.out x hx).1, (HW3.out x hx).2.mono fun y hy => HE5b.out _ (HE4.out _ hy)⟩
              have HE5c : Hid (∀ x ∈ rowE (.slice B2 k2 c2) 40 cur2, x ∈ E5) := fun x hx => HE5b.out _ (HE4.out _ (HE3a.out _ hx))
              rw [hE5] at H
              have R3 := R
              clear hE5 HP HW3 HE3a HE4 HE5b R
              obtain ⟨q1, hq1⟩ : ∃ r, S3.nx 2 = r := ⟨_, rfl⟩
              have bq1 : 0 ≤ q1 ∧ q1 < 2 := by rw [← hq1]; exact S3.nx_bd 2 (by decide)
              obtain ⟨bq1l, bq1r⟩ := bq1
              obtain ⟨sn, hsn⟩ : ∃ d : Nat, (k3 : Int) + q1 = d := ⟨((k3 : Int) + q1).toNat, by omega⟩
              have bsn : sn ≤ 3 := by omega
              have wsn : IntKind.i64.wrap ((k3 : Int) + q1) = (sn : Int) := by rw [hsn]; exact IntWalk.i64_in _ (by omega)
              have HQ4 := Lib.hid hq1
              have HS4 := Lib.hid HS3.out.next
              clear hsn hq1
              go_wp2_with (first
                  | go_skip
                  | ((with_reducible refine isLoad ?_); refine ldA H ?_)
                  | ((with_reducible refine isLoad ?_); refine ld1A H ?_)
                  | ((with_reducible refine isStore ?_); refine stA H ?_; clear H; intro _ H)
                  | ((with_reducible refine isStore ?_); refine st1A H ?_; clear H; intro _ H)
                  | ((with_reducible refine isBox ?_); refine bxA H ?_; clear H; intro _ _ H)
                  | ((with_reducible refine isAlloc ?_); refine alA H ?_; clear H; intro _ _ H))
              refine wp_region_YF [.c (.pointer (some ⟨g4, 2, none⟩)), .c (.slice B3 k3 c3), .c (.int .i64 k3), .c (.pointer (some ⟨g3, 0, none⟩)), .y, .c (.int .i64 sn), .c (.int .i64 0)] ([(g4, 31, [.slice B k c, .slice B2 k2 c2, .slice B3 k3 c3, .slice none 0 0, .slice none 0 0, .bool false, .string ⟨#[]⟩, .string ⟨#[]⟩])]) H (by (repeat (first | exact List.Sublist.refl _ | exact List.nil_sublist _ | exact List.sublist_append_right _ _ | refine List.Sublist.cons_cons _ ?_ | refine List.Sublist.cons _ ?_))) (by kernel_rfl) (by kernel_rfl) (by kernel_rfl) ?_
              refine wpY_c (by rfl) (by (first | exact wanted_none rfl | exact wanted_some rfl rfl)) (by intro W _; first | (go_simp; rfl) | (go_simp; done) | (trace_state; fail)) ?_
              (simp only [Act.put, List.setIfInBounds_toArray, List.set_cons_succ, List.set_cons_zero])
              refine wpY_load1 (by rfl) (by rfl) (by (first | exact wanted_none rfl | exact wanted_some rfl rfl)) kParts (by rfl) (by (repeat (first | exact List.Mem.head _ | refine List.Mem.tail _ ?_ | assumption))) (by rfl) ?_
              (simp only [Act.put, List.setIfInBounds_toArray, List.set_cons_succ, List.set_cons_zero])
              refine wpY_c (by rfl) (by (first | exact wanted_none rfl | exact wanted_some rfl rfl)) (by intro W _; first | (go_simp; rfl) | (go_simp; done) | (trace_state; fail)) ?_
              (simp only [Act.put, List.setIfInBounds_toArray, List.set_cons_succ, List.set_cons_zero])
              refine wpY_c (by rfl) (by (first | exact wanted_none rfl | exact wanted_some rfl rfl)) (by intro W _; first | (go_simp; rfl) | (go_simp; done) | (trace_state; fail)) ?_
              (simp only [Act.put, List.setIfInBounds_toArray, List.set_cons_succ, List.set_cons_zero])
              refine wpY_y (by rfl) (by (first | exact wanted_none rfl | exact wanted_some rfl rfl)) (fun G F W HF hG => ?_)
              go_simp
              unfold upY
              have hX := nextH_any (m' := ((g4, 31, [.slice B k c, .slice B2 k2 c2, .slice B3 k3 c3, .slice none 0 0, .slice none 0 0, .bool false, .string ⟨#[]⟩, .string ⟨#[]⟩]) :: (g3, 93, [S3.sn.v]) :: (g2, 31, [.slice none 0 0, .slice none 0 0, .slice none 0 0, .slice none 0 0, .slice none 0 0, .bool false, .string ⟨#[]⟩, .string ⟨#[]⟩]) :: (E5)) ++ F) S3 g3 2 HF HS3 (Lib.hid (by (repeat (first | apply Upd.head | apply Upd.tail | assumption)))) (by decide) (by decide)
              rw [HQ4.out] at hX
              refine Calls.mono hX ?_
              clear hX
              rintro _ W2 ⟨rfl, h2⟩
              refine ⟨_, rfl, hG _ _ ((g4, 31, [.slice B k c, .slice B2 k2 c2, .slice B3 k3 c3, .slice none 0 0, .slice none 0 0, .bool false, .string ⟨#[]⟩, .string ⟨#[]⟩]) :: (g3, 93, [S3.sn.v]) :: (g2, 31, [.slice none 0 0, .slice none 0 0, .slice none 0 0, .slice none 0 0, .slice none 0 0, .bool false, .string ⟨#[]⟩, .string ⟨#[]⟩]) :: (E5)) h2 (by (repeat (first | exact List.Sublist.refl _ | exact List.nil_sublist _ | exact List.sublist_append_right _ _ | refine List.Sublist.cons_cons _ ?_ | refine List.Sublist.cons _ ?_))) (Upd.fixed (b := g3) (T := 93) (by (repeat (first | apply Upd.head | apply Upd.tail | assumption))) (by rfl)) ?_⟩
              clear HF hG h2
              clear G F W W2
              (simp only [Act.put, List.setIfInBounds_toArray, List.set_cons_succ, List.set_cons_zero])
              refine wpY_c (by rfl) (by (first | exact wanted_none rfl | exact wanted_some rfl rfl)) (by intro W _; first | (go_simp; rfl) | (go_simp; done) | (trace_state; fail)) ?_
              (simp only [Act.put, List.setIfInBounds_toArray, List.set_cons_succ, List.set_cons_zero])
              refine wpY_c (by rfl) (by (first | exact wanted_none rfl | exact wanted_some rfl rfl)) (by intro W _; first | (go_simp; rfl) | (go_simp; done) | (trace_state; fail)) ?_
              (simp only [Act.put, List.setIfInBounds_toArray, List.set_cons_succ, List.set_cons_zero])
              refine wpY_nil ?_
              clear H
              intro _ H
              go_wp2_with (first
                  | go_skip
                  | ((with_reducible refine isLoad ?_); refine ldA H ?_)
                  | ((with_reducible refine isLoad ?_); refine ld1A H ?_)
                  | ((with_reducible refine isStore ?_); refine stA H ?_; clear H; intro _ H)
                  | ((with_reducible refine isStore ?_); refine st1A H ?_; clear H; intro _ H)
                  | ((with_reducible refine isBox ?_); refine bxA H ?_; clear H; intro _ _ H)
                  | ((with_reducible refine isAlloc ?_); refine alA H ?_; clear H; intro _ _ H))
              go_loopw [93] (fun i_ wr => ∃ (k4 : Nat) (S4 : Sd) (Bs : Option Addr) (cz : Nat) (ss : List SltE) (curs : List Value), i_ = .int .i64 k4 ∧ k4 ≤ sn ∧ Hid (S4.ok w) ∧ Hid (RowV 14 (.slice Bs k4 cz) k4 (flat sltC ss) curs) ∧ ss.length = k4 ∧ Hid (∀ x ∈ ss, SKE x) ∧ Hid (Hp w wr ((g4, 31, [.slice B k c, .slice B2 k2 c2, .slice B3 k3 c3, .slice Bs k4 cz, .slice none 0 0, .bool false, .string ⟨#[]⟩, .string ⟨#[]⟩]) :: (g3, 93, [S4.v]) :: (g2, 31, [.slice none 0 0, .slice none 0 0, .slice none 0 0, .slice none 0 0, .slice none 0 0, .bool false, .string ⟨#[]⟩, .string ⟨#[]⟩]) :: (rowE (.slice Bs k4 cz) 52 curs ++ E5)))) (fun i_ _ => sn - (intOf i_).toNat)
              case atStart => exact ⟨0, _, none, 0, [], [], rfl, by omega, HS4, RowV.nil 14, rfl, (fun x hx => by cases hx), H⟩
              case round =>
                clear H HS4 HS3
                obtain ⟨k4, S4, Bs, cz, ss, curs, rfl, hk4, HS4, R, hsl, HSS, H⟩ := hrel
                by_cases hlt : k4 < sn
                · have kl : k4 ≤ 2 := by omega
                  have HT1 := Lib.hid HS4.out.next
                  have HT2 := Lib.hid HT1.out.next
                  have HT3 := Lib.hid HT2.out.next
                  have HT4 := Lib.hid HT3.out.next
                  obtain ⟨p1, hp1⟩ : ∃ r, S4.nx 40 = r := ⟨_, rfl⟩
                  have bp1 : 0 ≤ p1 ∧ p1 < 40 := by rw [← hp1]; exact S4.nx_bd 40 (by decide)
                  obtain ⟨bp1l, bp1r⟩ := bp1
                  obtain ⟨p2, hp2⟩ : ∃ r, S4.sn.nx 24 = r := ⟨_, rfl⟩
                  have bp2 : 0 ≤ p2 ∧ p2 < 24 := by rw [← hp2]; exact S4.sn.nx_bd 24 (by decide)
                  obtain ⟨bp2l, bp2r⟩ := bp2
                  obtain ⟨p3, hp3⟩ : ∃ r, S4.sn.sn.nx 5 = r := ⟨_, rfl⟩
                  have bp3 : 0 ≤ p3 ∧ p3 < 5 := by rw [← hp3]; exact S4.sn.sn.nx_bd 5 (by decide)
                  obtain ⟨bp3l, bp3r⟩ := bp3
                  obtain ⟨p4, hp4⟩ : ∃ r, S4.sn.sn.sn.nx 20 = r := ⟨_, rfl⟩
                  have bp4 : 0 ≤ p4 ∧ p4 < 20 := by rw [← hp4]; exact S4.sn.sn.sn.nx_bd 20 (by decide)
                  obtain ⟨bp4l, bp4r⟩ := bp4
                  obtain ⟨nb, hnb⟩ : ∃ b, [Value.string ⟨#[104, 101, 114, 101]⟩, .string ⟨#[116, 104, 101, 114, 101]⟩, .string ⟨#[98, 101, 121, 111, 110, 100]⟩][k4]? = some (.string b) := by
                    rcases k4 with _ | _ | _ | q
                    · exact ⟨_, rfl⟩
                    · exact ⟨_, rfl⟩
                    · exact ⟨_, rfl⟩
                    · omega
                  have HNB := Lib.hid hnb
                  obtain ⟨xx, hxx⟩ : ∃ q : Int, p1 - 20 = q := ⟨_, rfl⟩
                  obtain ⟨yy, hyy⟩ : ∃ q : Int, p2 - 12 = q := ⟨_, rfl⟩
                  obtain ⟨tt, htt⟩ : ∃ q : Int, p3 - 2 = q := ⟨_, rfl⟩
                  obtain ⟨d4, hd4⟩ : ∃ d : Nat, 8 + p4 = d := ⟨(8 + p4).toNat, by omega⟩
                  have v1 : IntKind.i64.wrap (p1 - 20) = xx := by rw [hxx]; exact IntWalk.i64_in _ (by omega)
                  have v2 : IntKind.i64.wrap (p2 - 12) = yy := by rw [hyy]; exact IntWalk.i64_in _ (by omega)
                  have v3 : IntKind.i64.wrap (p3 - 2) = tt := by rw [htt]; exact IntWalk.i64_in _ (by omega)
                  have v4 : IntKind.i64.wrap (8 + p4) = (d4 : Int) := by rw [hd4]; exact IntWalk.i64_in _ (by omega)
                  have bx : -20 ≤ xx ∧ xx ≤ 20 := by omega
                  have byy : -12 ≤ yy ∧ yy ≤ 12 := by omega
                  have bt : -2 ≤ tt ∧ tt ≤ 2 := by omega
                  have bd : 8 ≤ d4 ∧ d4 ≤ 27 := by omega
                  have bd0 : 0 < d4 := by omega
                  obtain ⟨gx, Egx⟩ : ∃ z : Rat, Hid (ofQ xx 4 = z) := ⟨_, rfl⟩
                  obtain ⟨gy, Egy⟩ : ∃ z : Rat, Hid (ofQ yy 4 = z) := ⟨_, rfl⟩
                  obtain ⟨gt, Egt⟩ : ∃ z : Rat, Hid (ofQ tt 2 = z) := ⟨_, rfl⟩
                  obtain ⟨gb, Egb⟩ : ∃ z : Rat, Hid (ofQ 1 d4 = z) := ⟨_, rfl⟩
                  have lk2 : (k4 : Int) < 3 := by omega
                  have HP1 := Lib.hid hp1
                  have HP2 := Lib.hid hp2
                  have HP3 := Lib.hid hp3
                  have HP4 := Lib.hid hp4
                  clear hnb hxx hyy htt hd4 hp1 hp2 hp3 hp4
                  go_wp2_with (first
                      | go_skip
                      | ((with_reducible refine isStore ?_); refine st1A (hT := sSlots) H ?_; clear H; intro _ H)
                      | ((with_reducible refine isLoad ?_); refine ldA H ?_)
                      | ((with_reducible refine isLoad ?_); refine ld1A H ?_)
                      | ((with_reducible refine isStore ?_); refine stA H ?_; clear H; intro _ H)
                      | ((with_reducible refine isStore ?_); refine st1A H ?_; clear H; intro _ H)
                      | ((with_reducible refine isBox ?_); refine bxA H ?_; clear H; intro _ _ H)
                      | ((with_reducible refine isAlloc ?_); refine alA H ?_; clear H; intro _ _ H))
                  refine wp_region_YO 27 [0, 1, 3, 6, 7, 8, 9, 10, 11, 12, 13, 14, 15, 16, 17, 18, 19, 20, 21, 22, 2, 4, 5, 23, 24, 25, 26] [.c (.pointer (some ⟨g4, 3, none⟩)), .c (.slice Bs k4 cz), .c (.int .i64 k4), .c (.pointer (some ⟨g3, 0, none⟩)), .y, .c (.int .i64 xx), .c (.pointer (some ⟨g3, 0, none⟩)), .y, .c (.int .i64 yy), .y, .c (.pointer (some ⟨g3, 0, none⟩)), .y, .c (.int .i64 tt), .y, .c (.agg #[.bool false, .bool (sgO (some gt)), .string (nuO (some gt)), .string (deO (some gt))]), .c (.agg #[.bool (sgO (some gx)), .string (nuO (some gx)), .string (deO (some gx)), .bool (sgO (some gy)), .string (nuO (some gy)), .string (deO (some gy)), .bool false, .bool (sgO (some gt)), .string (nuO (some gt)), .string (deO (some gt))]), .c (.pointer (some ⟨g3, 0, none⟩)), .y, .c (.int .i64 d4), .y, .a, .r, .r, .c (.agg #[.string nb, .bool (sgO (some gx)), .string (nuO (some gx)), .string (deO (some gx)), .bool (sgO (some gy)), .string (nuO (some gy)), .string (deO (some gy)), .bool false, .bool (sgO (some gt)), .string (nuO (some gt)), .string (deO (some gt)), .bool (sgO (some gb)), .string (nuO (some gb)), .string (deO (some gb))]), .a, .y, .c (.pointer (some ⟨g4, 3, none⟩))] ([(g4, 31, [.slice B k c, .slice B2 k2 c2, .slice B3 k3 c3, .slice Bs k4 cz, .slice none 0 0, .bool false, .string ⟨#[]⟩, .string ⟨#[]⟩])]) H (by (repeat (first | exact List.Sublist.refl _ | exact List.nil_sublist _ | exact List.sublist_append_right _ _ | refine List.Sublist.cons_cons _ ?_ | refine List.Sublist.cons _ ?_))) (by kernel_rfl) (by kernel_rfl) (by kernel_rfl) ?_
                  simp only [permL, List.map_cons, List.map_nil, List.getElem?_cons_succ, List.getElem?_cons_zero, Option.getD_some, List.drop_succ_cons, List.drop_zero]
                  refine wpY_c (by rfl) (by (first | exact wanted_none rfl | exact wanted_some rfl rfl)) (by intro W _; first | (go_simp; rfl) | (go_simp; done) | (trace_state; fail)) ?_
                  (simp only [Act.put, List.setIfInBounds_toArray, List.set_cons_succ, List.set_cons_zero])
                  refine wpY_load1 (by rfl) (by rfl) (by (first | exact wanted_none rfl | exact wanted_some rfl rfl)) kSlots (by rfl) (by (repeat (first | exact List.Mem.head _ | refine List.Mem.tail _ ?_ | assumption))) (by rfl) ?_
                  (simp only [Act.put, List.setIfInBounds_toArray, List.set_cons_succ, List.set_cons_zero])
                  refine wpY_c (by rfl) (by (first | exact wanted_none rfl | exact wanted_some rfl rfl)) (by intro W _; first | (go_simp; rfl) | (go_simp; done) | (trace_state; fail)) ?_
                  (simp only [Act.put, List.setIfInBounds_toArray, List.set_cons_succ, List.set_cons_zero])
                  refine wpY_c (by rfl) (by (first | exact wanted_none rfl | exact wanted_some rfl rfl)) (by intro W _; first | (go_simp; rfl) | (go_simp; done) | (trace_state; fail)) ?_
                  (simp only [Act.put, List.setIfInBounds_toArray, List.set_cons_succ, List.set_cons_zero])
                  refine wpY_y (by rfl) (by (first | exact wanted_none rfl | exact wanted_some rfl rfl)) (fun G F W HF hG => ?_)
                  go_simp
                  unfold upY
                  have hX := nextH_any (m' := ((g4, 31, [.slice B k c, .slice B2 k2 c2, .slice B3 k3 c3, .slice Bs k4 cz, .slice none 0 0, .bool false, .string ⟨#[]⟩, .string ⟨#[]⟩]) :: (g3, 93, [S4.sn.v]) :: (g2, 31, [.slice none 0 0, .slice none 0 0, .slice none 0 0, .slice none 0 0, .slice none 0 0, .bool false, .string ⟨#[]⟩, .string ⟨#[]⟩]) :: (rowE (.slice Bs k4 cz) 52 curs ++ E5)) ++ F) S4 g3 40 HF HS4 (Lib.hid (by (repeat (first | apply Upd.head | apply Upd.tail | assumption)))) (by decide) (by decide)
                  rw [HP1.out] at hX
                  refine Calls.mono hX ?_
                  clear hX
                  rintro _ W2 ⟨rfl, h2⟩
                  refine ⟨_, rfl, hG _ _ ((g4, 31, [.slice B k c, .slice B2 k2 c2, .slice B3 k3 c3, .slice Bs k4 cz, .slice none 0 0, .bool false, .string ⟨#[]⟩, .string ⟨#[]⟩]) :: (g3, 93, [S4.sn.v]) :: (g2, 31, [.slice none 0 0, .slice none 0 0, .slice none 0 0, .slice none 0 0, .slice none 0 0, .bool false, .string ⟨#[]⟩, .string ⟨#[]⟩]) :: (rowE (.slice Bs k4 cz) 52 curs ++ E5)) h2 (by (repeat (first | exact List.Sublist.refl _ | exact List.nil_sublist _ | exact List.sublist_append_right _ _ | refine List.Sublist.cons_cons _ ?_ | refine List.Sublist.cons _ ?_))) (Upd.fixed (b := g3) (T := 93) (by (repeat (first | apply Upd.head | apply Upd.tail | assumption))) (by rfl)) ?_⟩
                  clear HF hG h2
                  clear G F W W2
                  (simp only [Act.put, List.setIfInBounds_toArray, List.set_cons_succ, List.set_cons_zero])
                  refine wpY_c (by rfl) (by (first | exact wanted_none rfl | exact wanted_some rfl rfl)) (by intro W _; first | (go_simp; rfl) | (go_simp; done) | (trace_state; fail)) ?_
                  (simp only [Act.put, List.setIfInBounds_toArray, List.set_cons_succ, List.set_cons_zero])
                  refine wpY_c (by rfl) (by (first | exact wanted_none rfl | exact wanted_some rfl rfl)) (by intro W _; first | (go_simp; rfl) | (go_simp; done) | (trace_state; fail)) ?_
                  (simp only [Act.put, List.setIfInBounds_toArray, List.set_cons_succ, List.set_cons_zero])
                  refine wpY_y (by rfl) (by (first | exact wanted_none rfl | exact wanted_some rfl rfl)) (fun G F W HF hG => ?_)
                  go_simp
                  unfold upY
                  have hX := nextH_any (m' := ((g4, 31, [.slice B k c, .slice B2 k2 c2, .slice B3 k3 c3, .slice Bs k4 cz, .slice none 0 0, .bool false, .string ⟨#[]⟩, .string ⟨#[]⟩]) :: (g3, 93, [S4.sn.sn.v]) :: (g2, 31, [.slice none 0 0, .slice none 0 0, .slice none 0 0, .slice none 0 0, .slice none 0 0, .bool false, .string ⟨#[]⟩, .string ⟨#[]⟩]) :: (rowE (.slice Bs k4 cz) 52 curs ++ E5)) ++ F) S4.sn g3 24 HF HT1 (Lib.hid (by (repeat (first | apply Upd.head | apply Upd.tail | assumption)))) (by decide) (by decide)
                  rw [HP2.out] at hX
                  refine Calls.mono hX ?_
                  clear hX
                  rintro _ W2 ⟨rfl, h2⟩
                  refine ⟨_, rfl, hG _ _ ((g4, 31, [.slice B k c, .slice B2 k2 c2, .slice B3 k3 c3, .slice Bs k4 cz, .slice none 0 0, .bool false, .string ⟨#[]⟩, .string ⟨#[]⟩]) :: (g3, 93, [S4.sn.sn.v]) :: (g2, 31, [.slice none 0 0, .slice none 0 0, .slice none 0 0, .slice none 0 0, .slice none 0 0, .bool false, .string ⟨#[]⟩, .string ⟨#[]⟩]) :: (rowE (.slice Bs k4 cz) 52 curs ++ E5)) h2 (by (repeat (first | exact List.Sublist.refl _ | exact List.nil_sublist _ | exact List.sublist_append_right _ _ | refine List.Sublist.cons_cons _ ?_ | refine List.Sublist.cons _ ?_))) (Upd.fixed (b := g3) (T := 93) (by (repeat (first | apply Upd.head | apply Upd.tail | assumption))) (by rfl)) ?_⟩
                  clear HF hG h2
                  clear G F W W2
                  (simp only [Act.put, List.setIfInBounds_toArray, List.set_cons_succ, List.set_cons_zero])
                  refine wpY_c (by rfl) (by (first | exact wanted_none rfl | exact wanted_some rfl rfl)) (by intro W _; first | (go_simp; rfl) | (go_simp; done) | (trace_state; fail)) ?_
                  (simp only [Act.put, List.setIfInBounds_toArray, List.set_cons_succ, List.set_cons_zero])
                  refine wpY_y (by rfl) (by (first | exact wanted_none rfl | exact wanted_some rfl rfl)) (fun G F W HF hG => ?_)
                  go_simp
                  unfold upY
                  refine Calls.mono (makeAt_any xx yy gx gy _ (by omega) (by omega) HF.out.tb Egx Egy) ?_
                  rintro _ W2 ⟨rfl, hb⟩
                  refine ⟨_, rfl, hG _ W2 _ (HF.out.go hb) (by (repeat (first | exact List.Sublist.refl _ | exact List.nil_sublist _ | exact List.sublist_append_right _ _ | refine List.Sublist.cons_cons _ ?_ | refine List.Sublist.cons _ ?_))) (fun x _ => Iff.rfl) ?_⟩
                  clear hG hb HF
                  clear G F W W2
                  (simp only [Act.put, List.setIfInBounds_toArray, List.set_cons_succ, List.set_cons_zero])
                  refine wpY_c (by rfl) (by (first | exact wanted_none rfl | exact wanted_some rfl rfl)) (by intro W _; first | (go_simp; rfl) | (go_simp; done) | (trace_state; fail)) ?_
                  (simp only [Act.put, List.setIfInBounds_toArray, List.set_cons_succ, List.set_cons_zero])
                  refine wpY_y (by rfl) (by (first | exact wanted_none rfl | exact wanted_some rfl rfl)) (fun G F W HF hG => ?_)
                  go_simp
                  unfold upY
                  have hX := nextH_any (m' := ((g4, 31, [.slice B k c, .slice B2 k2 c2, .slice B3 k3 c3, .slice Bs k4 cz, .slice none 0 0, .bool false, .string ⟨#[]⟩, .string ⟨#[]⟩]) :: (g3, 93, [S4.sn.sn.sn.v]) :: (g2, 31, [.slice none 0 0, .slice none 0 0, .slice none 0 0, .slice none 0 0, .slice none 0 0, .bool false, .string ⟨#[]⟩, .string ⟨#[]⟩]) :: (rowE (.slice Bs k4 cz) 52 curs ++ E5)) ++ F) S4.sn.sn g3 5 HF HT2 (Lib.hid (by (repeat (first | apply Upd.head | apply Upd.tail | assumption)))) (by decide) (by decide)
                  rw [HP3.out] at hX
                  refine Calls.mono hX ?_
                  clear hX
                  rintro _ W2 ⟨rfl, h2⟩
                  refine ⟨_, rfl, hG _ _ ((g4, 31, [.slice B k c, .slice B2 k2 c2, .slice B3 k3 c3, .slice Bs k4 cz, .slice none 0 0, .bool false, .string ⟨#[]⟩, .string ⟨#[]⟩]) :: (g3, 93, [S4.sn.sn.sn.v]) :: (g2, 31, [.slice none 0 0, .slice none 0 0, .slice none 0 0, .slice none 0 0, .slice none 0 0, .bool false, .string ⟨#[]⟩, .string ⟨#[]⟩]) :: (rowE (.slice Bs k4 cz) 52 curs ++ E5)) h2 (by (repeat (first | exact List.Sublist.refl _ | exact List.nil_sublist _ | exact List.sublist_append_right _ _ | refine List.Sublist.cons_cons _ ?_ | refine List.Sublist.cons _ ?_))) (Upd.fixed (b := g3) (T := 93) (by (repeat (first | apply Upd.head | apply Upd.tail | assumption))) (by rfl)) ?_⟩
                  clear HF hG h2
                  clear G F W W2
                  (simp only [Act.put, List.setIfInBounds_toArray, List.set_cons_succ, List.set_cons_zero])
                  refine wpY_c (by rfl) (by (first | exact wanted_none rfl | exact wanted_some rfl rfl)) (by intro W _; first | (go_simp; rfl) | (go_simp; done) | (trace_state; fail)) ?_
                  (simp only [Act.put, List.setIfInBounds_toArray, List.set_cons_succ, List.set_cons_zero])
                  refine wpY_y (by rfl) (by (first | exact wanted_none rfl | exact wanted_some rfl rfl)) (fun G F W HF hG => ?_)
                  go_simp
                  unfold upY
                  refine Calls.mono (ofQ_any tt 2 gt _ (by omega) (by omega) (by decide) (by decide) Egt) ?_
                  rintro _ W2 ⟨rfl, hb⟩
                  refine ⟨_, rfl, hG _ W2 _ (HF.out.go hb) (by (repeat (first | exact List.Sublist.refl _ | exact List.nil_sublist _ | exact List.sublist_append_right _ _ | refine List.Sublist.cons_cons _ ?_ | refine List.Sublist.cons _ ?_))) (fun x _ => Iff.rfl) ?_⟩
                  clear hG hb HF
                  clear G F W W2
                  (simp only [Act.put, List.setIfInBounds_toArray, List.set_cons_succ, List.set_cons_zero])
                  refine wpY_c (by rfl) (by (first | exact wanted_none rfl | exact wanted_some rfl rfl)) (by intro W _; first | (go_simp; rfl) | (go_simp; done) | (trace_state; fail)) ?_
                  (simp only [Act.put, List.setIfInBounds_toArray, List.set_cons_succ, List.set_cons_zero])
                  refine wpY_c (by rfl) (by (first | exact wanted_none rfl | exact wanted_some rfl rfl)) (by intro W _; first | (go_simp; rfl) | (go_simp; done) | (trace_state; fail)) ?_
                  (simp only [Act.put, List.setIfInBounds_toArray, List.set_cons_succ, List.set_cons_zero])
                  refine wpY_c (by rfl) (by (first | exact wanted_none rfl | exact wanted_some rfl rfl)) (by intro W _; first | (go_simp; rfl) | (go_simp; done) | (trace_state; fail)) ?_
                  (simp only [Act.put, List.setIfInBounds_toArray, List.set_cons_succ, List.set_cons_zero])
                  refine wpY_y (by rfl) (by (first | exact wanted_none rfl | exact wanted_some rfl rfl)) (fun G F W HF hG => ?_)
                  go_simp
                  unfold upY
                  have hX := nextH_any (m' := ((g4, 31, [.slice B k c, .slice B2 k2 c2, .slice B3 k3 c3, .slice Bs k4 cz, .slice none 0 0, .bool false, .string ⟨#[]⟩, .string ⟨#[]⟩]) :: (g3, 93, [S4.sn.sn.sn.sn.v]) :: (g2, 31, [.slice none 0 0, .slice none 0 0, .slice none 0 0, .slice none 0 0, .slice none 0 0, .bool false, .string ⟨#[]⟩, .string ⟨#[]⟩]) :: (rowE (.slice Bs k4 cz) 52 curs ++ E5)) ++ F) S4.sn.sn.sn g3 20 HF HT3 (Lib.hid (by (repeat (first | apply Upd.head | apply Upd.tail | assumption)))) (by decide) (by decide)
                  rw [HP4.out] at hX
                  refine Calls.mono hX ?_
                  clear hX
                  rintro _ W2 ⟨rfl, h2⟩
                  refine ⟨_, rfl, hG _ _ ((g4, 31, [.slice B k c, .slice B2 k2 c2, .slice B3 k3 c3, .slice Bs k4 cz, .slice none 0 0, .bool false, .string ⟨#[]⟩, .string ⟨#[]⟩]) :: (g3, 93, [S4.sn.sn.sn.sn.v]) :: (g2, 31, [.slice none 0 0, .slice none 0 0, .slice none 0 0, .slice none 0 0, .slice none 0 0, .bool false, .string ⟨#[]⟩, .string ⟨#[]⟩]) :: (rowE (.slice Bs k4 cz) 52 curs ++ E5)) h2 (by (repeat (first | exact List.Sublist.refl _ | exact List.nil_sublist _ | exact List.sublist_append_right _ _ | refine List.Sublist.cons_cons _ ?_ | refine List.Sublist.cons _ ?_))) (Upd.fixed (b := g3) (T := 93) (by (repeat (first | apply Upd.head | apply Upd.tail | assumption))) (by rfl)) ?_⟩
                  clear HF hG h2
                  clear G F W W2
                  (simp only [Act.put, List.setIfInBounds_toArray, List.set_cons_succ, List.set_cons_zero])
                  refine wpY_c (by rfl) (by (first | exact wanted_none rfl | exact wanted_some rfl rfl)) (by intro W _; first | (go_simp; rfl) | (go_simp; done) | (trace_state; fail)) ?_
                  (simp only [Act.put, List.setIfInBounds_toArray, List.set_cons_succ, List.set_cons_zero])
                  refine wpY_y (by rfl) (by (first | exact wanted_none rfl | exact wanted_some rfl rfl)) (fun G F W HF hG => ?_)
                  go_simp
                  unfold upY
                  refine Calls.mono (ofQ_any 1 d4 gb _ (by decide) (by decide) bd0 (by omega) Egb) ?_
                  rintro _ W2 ⟨rfl, hb⟩
                  refine ⟨_, rfl, hG _ W2 _ (HF.out.go hb) (by (repeat (first | exact List.Sublist.refl _ | exact List.nil_sublist _ | exact List.sublist_append_right _ _ | refine List.Sublist.cons_cons _ ?_ | refine List.Sublist.cons _ ?_))) (fun x _ => Iff.rfl) ?_⟩
                  clear hG hb HF
                  clear G F W W2
                  (simp only [Act.put, List.setIfInBounds_toArray, List.set_cons_succ, List.set_cons_zero])
                  refine wpY_V 9 ([Value.string ⟨#[104, 101, 114, 101]⟩, .string ⟨#[116, 104, 101, 114, 101]⟩, .string ⟨#[98, 101, 121, 111, 110, 100]⟩]) 3 (by rfl) (by rfl) (by intro W; kernel_rfl) ?_
                  intro bl
                  (simp only [Act.put, List.setIfInBounds_toArray, List.set_cons_succ, List.set_cons_zero])
                  refine wpY_rp (b := bl) (cs := [Value.string ⟨#[104, 101, 114, 101]⟩, .string ⟨#[116, 104, 101, 114, 101]⟩, .string ⟨#[98, 101, 121, 111, 110, 100]⟩]) (by rfl) (by (first | exact wanted_none rfl | exact wanted_some rfl rfl)) (by (repeat (first | exact List.Mem.head _ | refine List.Mem.tail _ ?_ | assumption))) (by rfl) (by intro W; first | (go_simp; rfl) | go_simp) ?_
                  (simp only [Act.put, List.setIfInBounds_toArray, List.set_cons_succ, List.set_cons_zero])
                  refine wpY_r (j := k4) (cs := [Value.string ⟨#[104, 101, 114, 101]⟩, .string ⟨#[116, 104, 101, 114, 101]⟩, .string ⟨#[98, 101, 121, 111, 110, 100]⟩]) (by rfl) (by rfl) (by (first | exact wanted_none rfl | exact wanted_some rfl rfl)) kStr (by rfl) (by omega) (by (repeat (first | exact List.Mem.head _ | refine List.Mem.tail _ ?_ | assumption))) (by rfl) HNB.out ?_
                  (simp only [Act.put, List.setIfInBounds_toArray, List.set_cons_succ, List.set_cons_zero])
                  refine wpY_c (by rfl) (by (first | exact wanted_none rfl | exact wanted_some rfl rfl)) (by intro W _; first | (go_simp; rfl) | (go_simp; done) | (trace_state; fail)) ?_
                  (simp only [Act.put, List.setIfInBounds_toArray, List.set_cons_succ, List.set_cons_zero])
                  refine wpY_V 52 ([.string nb, .bool (sgO (some gx)), .string (nuO (some gx)), .string (deO (some gx)), .bool (sgO (some gy)), .string (nuO (some gy)), .string (deO (some gy)), .bool false, .bool (sgO (some gt)), .string (nuO (some gt)), .string (deO (some gt)), .bool (sgO (some gb)), .string (nuO (some gb)), .string (deO (some gb))]) 1 (by rfl) (by rfl) (by intro W; kernel_rfl) ?_
                  intro b5
                  (simp only [Act.put, List.setIfInBounds_toArray, List.set_cons_succ, List.set_cons_zero])
                  refine wpY_app [(b5, 52, [.string nb, .bool (sgO (some gx)), .string (nuO (some gx)), .string (deO (some gx)), .bool (sgO (some gy)), .string (nuO (some gy)), .string (deO (some gy)), .bool false, .bool (sgO (some gt)), .string (nuO (some gt)), .string (deO (some gt)), .bool (sgO (some gb)), .string (nuO (some gb)), .string (deO (some gb))]), (bl, 9, [Value.string ⟨#[104, 101, 114, 101]⟩, .string ⟨#[116, 104, 101, 114, 101]⟩, .string ⟨#[98, 101, 121, 111, 110, 100]⟩]), (g4, 31, [.slice B k c, .slice B2 k2 c2, .slice B3 k3 c3, .slice Bs k4 cz, .slice none 0 0, .bool false, .string ⟨#[]⟩, .string ⟨#[]⟩]), (g3, 93, [S4.sn.sn.sn.sn.v]), (g2, 31, [.slice none 0 0, .slice none 0 0, .slice none 0 0, .slice none 0 0, .slice none 0 0, .bool false, .string ⟨#[]⟩, .string ⟨#[]⟩])] (E5) (by rfl) (by (first | exact wanted_none rfl | exact wanted_some rfl rfl)) R iSlot (by decide) uSlots (by rfl) (by rfl) (by rfl) (.head _) (by rfl) (by rfl) (by decide) (by unfold maxLen; omega) (by omega) (by rfl) (by intro x hx; rw [List.mem_singleton.1 hx]; exact List.mem_append_left _ (by (repeat (first | exact List.Mem.head _ | refine List.Mem.tail _ ?_ | assumption)))) (by rfl) (fun v4 cur4 R4 => ?_)
                  obtain ⟨B4, c4, hv4, hc4⟩ := R4.out.shape
                  subst hv4
                  clear hc4
                  (simp only [Act.put, List.setIfInBounds_toArray, List.set_cons_succ, List.set_cons_zero])
                  refine wpY_c (by rfl) (by (first | exact wanted_none rfl | exact wanted_some rfl rfl)) (by intro W _; first | (go_simp; rfl) | (go_simp; done) | (trace_state; fail)) ?_
                  (simp only [Act.put, List.setIfInBounds_toArray, List.set_cons_succ, List.set_cons_zero])
                  refine wpY_nil ?_
                  clear H
                  intro _ H
                  go_wp2_with (first
                      | go_skip
                      | ((with_reducible refine isStore ?_); refine st1A (hT := sSlots) H ?_; clear H; intro _ H)
                      | ((with_reducible refine isLoad ?_); refine ldA H ?_)
                      | ((with_reducible refine isLoad ?_); refine ld1A H ?_)
                      | ((with_reducible refine isStore ?_); refine stA H ?_; clear H; intro _ H)
                      | ((with_reducible refine isStore ?_); refine st1A H ?_; clear H; intro _ H)
                      | ((with_reducible refine isBox ?_); refine bxA H ?_; clear H; intro _ _ H)
                      | ((with_reducible refine isAlloc ?_); refine alA H ?_; clear H; intro _ _ H))
                  have H5 := Lib.hid H.out.drop.drop
                  have HS5 : Hid (∀ x ∈ ss ++ [(⟨nb, some gx, some gy, some gt, some gb⟩ : SltE)], SKE x) := fun x hx => by
                    rcases List.mem_append.1 hx with hx | hx
                    · exact HSS.out x hx
                    · rw [List.mem_singleton.1 hx]
                      exact ⟨xx, yy, tt, d4, by rw [Egx.out], by rw [Egy.out], by rw [Egt.out], by rw [Egb.out], bx, byy, bt, bd⟩
                  have R5 : Hid (RowV 14 (.slice B4 (k4 + 1) c4) (k4 + 1) (flat sltC (ss ++ [(⟨nb, some gx, some gy, some gt, some gb⟩ : SltE)])) cur4) := by rw [flat_append, flat_one]; exact R4
                  clear H HSS R R4
                  go_roundw
                  case rel => exact ⟨k4 + 1, S4.sn.sn.sn.sn, B4, c4, _, cur4, by go_num, by omega, HT4, R5, by (rw [List.length_append, hsl]; rfl), HS5, H5⟩
                  case measure => simp [intOf]; omega
                · have hkn4 : k4 = sn := by omega
                  subst hkn4
                  obtain ⟨E6, hE6⟩ : ∃ E6, rowE (.slice Bs k4 cz) 52 curs ++ E5 = E6 := ⟨_, rfl⟩
                  have HE6a : Hid (∀ x ∈ rowE (.slice Bs k4 cz) 52 curs, x ∈ E6) := fun x hx => by rw [← hE6]; exact List.mem_append_left _ hx
                  have HE6b : Hid (∀ x ∈ E5, x ∈ E6) := fun x hx => by rw [← hE6]; exact List.mem_append_right _ hx
                  rw [hE6] at H
                  have R4 := R
                  clear hE6 R
                  obtain ⟨q2, hq2⟩ : ∃ r, S4.nx 2 = r := ⟨_, rfl⟩
                  have bq2 : 0 ≤ q2 ∧ q2 < 2 := by rw [← hq2]; exact S4.nx_bd 2 (by decide)
                  obtain ⟨bq2l, bq2r⟩ := bq2
                  obtain ⟨gn, hgn⟩ : ∃ d : Nat, q2 = d := ⟨q2.toNat, by omega⟩
                  have bgn : gn ≤ 1 := by omega
                  rw [hgn] at hq2
                  have HQ5 := Lib.hid hq2
                  have HS5 := Lib.hid HS4.out.next
                  clear hgn hq2 bq2l bq2r q2
                  go_wp2_with (first
                      | go_skip
                      | ((with_reducible refine isLoad ?_); refine ldA H ?_)
                      | ((with_reducible refine isLoad ?_); refine ld1A H ?_)
                      | ((with_reducible refine isStore ?_); refine stA H ?_; clear H; intro _ H)
                      | ((with_reducible refine isStore ?_); refine st1A H ?_; clear H; intro _ H)
                      | ((with_reducible refine isBox ?_); refine bxA H ?_; clear H; intro _ _ H)
                      | ((with_reducible refine isAlloc ?_); refine alA H ?_; clear H; intro _ _ H))
                  have hX := nextH_any (m' := (g4, 31, [.slice B k c, .slice B2 k2 c2, .slice B3 k3 c3, .slice Bs k4 cz, .slice none 0 0, .bool false, .string ⟨#[]⟩, .string ⟨#[]⟩]) :: (g3, 93, [S4.sn.v]) :: (g2, 31, [.slice none 0 0, .slice none 0 0, .slice none 0 0, .slice none 0 0, .slice none 0 0, .bool false, .string ⟨#[]⟩, .string ⟨#[]⟩]) :: (E6)) S4 g3 2 H HS4 (Lib.hid (by (repeat (first | apply Upd.head | apply Upd.tail | assumption)))) (by decide) (by decide)
                  rw [HQ5.out] at hX
                  refine hX.mono ?_
                  clear hX
                  rintro _ _ ⟨rfl, H2⟩
                  clear H
                  have H := Lib.hid H2
                  clear H2
                  go_wp2_with (first
                      | go_skip
                      | ((with_reducible refine isLoad ?_); refine ldA H ?_)
                      | ((with_reducible refine isLoad ?_); refine ld1A H ?_)
                      | ((with_reducible refine isStore ?_); refine stA H ?_; clear H; intro _ H)
                      | ((with_reducible refine isStore ?_); refine st1A H ?_; clear H; intro _ H)
                      | ((with_reducible refine isBox ?_); refine bxA H ?_; clear H; intro _ _ H)
                      | ((with_reducible refine isAlloc ?_); refine alA H ?_; clear H; intro _ _ H))
                  go_loopw [126] (fun i_ wr => ∃ (k5 : Nat) (S5 : Sd) (Bg : Option Addr) (cg : Nat) (xs curg : List Value), i_ = .int .i64 k5 ∧ k5 ≤ gn ∧ Hid (S5.ok w) ∧ Hid (RowV 13 (.slice Bg k5 cg) k5 xs curg) ∧ Hid (Hp w wr ((g4, 31, [.slice B k c, .slice B2 k2 c2, .slice B3 k3 c3, .slice Bs k4 cz, .slice Bg k5 cg, .bool false, .string ⟨#[]⟩, .string ⟨#[]⟩]) :: (g3, 93, [S5.v]) :: (g2, 31, [.slice none 0 0, .slice none 0 0, .slice none 0 0, .slice none 0 0, .slice none 0 0, .bool false, .string ⟨#[]⟩, .string ⟨#[]⟩]) :: (rowE (.slice Bg k5 cg) 107 curg ++ E6)))) (fun i_ _ => gn - (intOf i_).toNat)
                  case atStart => exact ⟨0, _, none, 0, [], [], rfl, by omega, HS5, RowV.nil 13, H⟩
                  case round =>
                    clear H HS5 HS4
                    obtain ⟨k5, S5, Bg, cg, xs, curg, rfl, hk5, HS5, R, H⟩ := hrel
                    by_cases hlt : k5 < gn
                    · skip
                      have HT1 := Lib.hid HS5.out.next
                      have HT2 := Lib.hid HT1.out.next
                      have HT3 := Lib.hid HT2.out.next
                      have HT4 := Lib.hid HT3.out.next
                      obtain ⟨p1, hp1⟩ : ∃ r, S5.nx 60 = r := ⟨_, rfl⟩
                      have bp1 : 0 ≤ p1 ∧ p1 < 60 := by rw [← hp1]; exact S5.nx_bd 60 (by decide)
                      obtain ⟨bp1l, bp1r⟩ := bp1
                      obtain ⟨p2, hp2⟩ : ∃ r, S5.sn.nx 60 = r := ⟨_, rfl⟩
                      have bp2 : 0 ≤ p2 ∧ p2 < 60 := by rw [← hp2]; exact S5.sn.nx_bd 60 (by decide)
                      obtain ⟨bp2l, bp2r⟩ := bp2
                      obtain ⟨p3, hp3⟩ : ∃ r, S5.sn.sn.nx 12 = r := ⟨_, rfl⟩
                      have bp3 : 0 ≤ p3 ∧ p3 < 12 := by rw [← hp3]; exact S5.sn.sn.nx_bd 12 (by decide)
                      obtain ⟨bp3l, bp3r⟩ := bp3
                      obtain ⟨p4, hp4⟩ : ∃ r, S5.sn.sn.sn.nx 12 = r := ⟨_, rfl⟩
                      have bp4 : 0 ≤ p4 ∧ p4 < 12 := by rw [← hp4]; exact S5.sn.sn.sn.nx_bd 12 (by decide)
                      obtain ⟨bp4l, bp4r⟩ := bp4
                      obtain ⟨xx, hxx⟩ : ∃ q : Int, p1 - 30 = q := ⟨_, rfl⟩
                      obtain ⟨yy, hyy⟩ : ∃ q : Int, p2 - 30 = q := ⟨_, rfl⟩
                      obtain ⟨uu, huu⟩ : ∃ q : Int, xx + p3 = q := ⟨_, rfl⟩
                      obtain ⟨vv, hvv⟩ : ∃ q : Int, yy + p4 = q := ⟨_, rfl⟩
                      have v1 : IntKind.i64.wrap (p1 - 30) = xx := by rw [hxx]; exact IntWalk.i64_in _ (by omega)
                      have v2 : IntKind.i64.wrap (p2 - 30) = yy := by rw [hyy]; exact IntWalk.i64_in _ (by omega)
                      have v3 : IntKind.i64.wrap (xx + p3) = uu := by rw [huu]; exact IntWalk.i64_in _ (by omega)
                      have v4 : IntKind.i64.wrap (yy + p4) = vv := by rw [hvv]; exact IntWalk.i64_in _ (by omega)
                      have bx : -30 ≤ xx ∧ xx ≤ 30 := by omega
                      have byy : -30 ≤ yy ∧ yy ≤ 30 := by omega
                      have bu : -30 ≤ uu ∧ uu ≤ 50 := by omega
                      have bv : -30 ≤ vv ∧ vv ≤ 50 := by omega
                      obtain ⟨gx, Egx⟩ : ∃ z : Rat, Hid (ofQ xx 4 = z) := ⟨_, rfl⟩
                      obtain ⟨gy, Egy⟩ : ∃ z : Rat, Hid (ofQ yy 4 = z) := ⟨_, rfl⟩
                      obtain ⟨gu, Egu⟩ : ∃ z : Rat, Hid (ofQ uu 4 = z) := ⟨_, rfl⟩
                      obtain ⟨gv, Egv⟩ : ∃ z : Rat, Hid (ofQ vv 4 = z) := ⟨_, rfl⟩
                      have HP3 := Lib.hid hp3
                      have HP4 := Lib.hid hp4
                      clear hxx hyy huu hvv hp3 hp4
                      go_wp2_with (first
                          | go_skip
                          | ((with_reducible refine isLoad ?_); refine ldA H ?_)
                          | ((with_reducible refine isLoad ?_); refine ld1A H ?_)
                          | ((with_reducible refine isStore ?_); refine stA H ?_; clear H; intro _ H)
                          | ((with_reducible refine isStore ?_); refine st1A H ?_; clear H; intro _ H)
                          | ((with_reducible refine isBox ?_); refine bxA H ?_; clear H; intro _ _ H)
                          | ((with_reducible refine isAlloc ?_); refine alA H ?_; clear H; intro _ _ H))
                      have hX := nextH_any (m' := (g4, 31, [.slice B k c, .slice B2 k2 c2, .slice B3 k3 c3, .slice Bs k4 cz, .slice Bg k5 cg, .bool false, .string ⟨#[]⟩, .string ⟨#[]⟩]) :: (g3, 93, [S5.sn.v]) :: (g2, 31, [.slice none 0 0, .slice none 0 0, .slice none 0 0, .slice none 0 0, .slice none 0 0, .bool false, .string ⟨#[]⟩, .string ⟨#[]⟩]) :: (rowE (.slice Bg k5 cg) 107 curg ++ E6)) S5 g3 60 H HS5 (Lib.hid (by (repeat (first | apply Upd.head | apply Upd.tail | assumption)))) (by decide) (by decide)
                      rw [hp1] at hX
                      refine hX.mono ?_
                      clear hX
                      rintro _ _ ⟨rfl, H2⟩
                      clear H
                      have H := Lib.hid H2
                      clear H2
                      go_wp2_with (first
                          | go_skip
                          | ((with_reducible refine isLoad ?_); refine ldA H ?_)
                          | ((with_reducible refine isLoad ?_); refine ld1A H ?_)
                          | ((with_reducible refine isStore ?_); refine stA H ?_; clear H; intro _ H)
                          | ((with_reducible refine isStore ?_); refine st1A H ?_; clear H; intro _ H)
                          | ((with_reducible refine isBox ?_); refine bxA H ?_; clear H; intro _ _ H)
                          | ((with_reducible refine isAlloc ?_); refine alA H ?_; clear H; intro _ _ H))
                      have hX := nextH_any (m' := (g4, 31, [.slice B k c, .slice B2 k2 c2, .slice B3 k3 c3, .slice Bs k4 cz, .slice Bg k5 cg, .bool false, .string ⟨#[]⟩, .string ⟨#[]⟩]) :: (g3, 93, [S5.sn.sn.v]) :: (g2, 31, [.slice none 0 0, .slice none 0 0, .slice none 0 0, .slice none 0 0, .slice none 0 0, .bool false, .string ⟨#[]⟩, .string ⟨#[]⟩]) :: (rowE (.slice Bg k5 cg) 107 curg ++ E6)) S5.sn g3 60 H HT1 (Lib.hid (by (repeat (first | apply Upd.head | apply Upd.tail | assumption)))) (by decide) (by decide)
                      rw [hp2] at hX
                      refine hX.mono ?_
                      clear hX
                      rintro _ _ ⟨rfl, H2⟩
                      clear H
                      have H := Lib.hid H2
                      clear H2
                      go_wp2_with (first
                          | go_skip
                          | ((with_reducible refine isStore ?_); refine st1A (hT := sGates) H ?_; clear H; intro _ H)
                          | ((with_reducible refine isLoad ?_); refine ldA H ?_)
                          | ((with_reducible refine isLoad ?_); refine ld1A H ?_)
                          | ((with_reducible refine isStore ?_); refine stA H ?_; clear H; intro _ H)
                          | ((with_reducible refine isStore ?_); refine st1A H ?_; clear H; intro _ H)
                          | ((with_reducible refine isBox ?_); refine bxA H ?_; clear H; intro _ _ H)
                          | ((with_reducible refine isAlloc ?_); refine alA H ?_; clear H; intro _ _ H))
                      refine wp_region_Y 19 [.c (.pointer (some ⟨g4, 4, none⟩)), .c (.slice Bg k5 cg), .c (.int .i64 xx), .c (.int .i64 yy), .y, .c (.int .i64 xx), .c (.pointer (some ⟨g3, 0, none⟩)), .y, .c (.int .i64 uu), .c (.int .i64 yy), .c (.pointer (some ⟨g3, 0, none⟩)), .y, .c (.int .i64 vv), .y, .c (.agg #[.bool (sgO (some gx)), .string (nuO (some gx)), .string (deO (some gx)), .bool (sgO (some gy)), .string (nuO (some gy)), .string (deO (some gy)), .bool (sgO (some gu)), .string (nuO (some gu)), .string (deO (some gu)), .bool (sgO (some gv)), .string (nuO (some gv)), .string (deO (some gv))]), .c (.agg #[.string ⟨#[100, 111, 111, 114]⟩, .bool (sgO (some gx)), .string (nuO (some gx)), .string (deO (some gx)), .bool (sgO (some gy)), .string (nuO (some gy)), .string (deO (some gy)), .bool (sgO (some gu)), .string (nuO (some gu)), .string (deO (some gu)), .bool (sgO (some gv)), .string (nuO (some gv)), .string (deO (some gv))]), .a, .y, .c (.pointer (some ⟨g4, 4, none⟩))] ([(g4, 31, [.slice B k c, .slice B2 k2 c2, .slice B3 k3 c3, .slice Bs k4 cz, .slice Bg k5 cg, .bool false, .string ⟨#[]⟩, .string ⟨#[]⟩])]) H (by (repeat (first | exact List.Sublist.refl _ | exact List.nil_sublist _ | exact List.sublist_append_right _ _ | refine List.Sublist.cons_cons _ ?_ | refine List.Sublist.cons _ ?_))) (by kernel_rfl) (by kernel_rfl) (by kernel_rfl) ?_
                      simp only [List.take_succ_cons, List.take_zero, List.drop_succ_cons, List.drop_zero]
                      refine wpY_c (by rfl) (by (first | exact wanted_none rfl | exact wanted_some rfl rfl)) (by intro W _; first | (go_simp; rfl) | (go_simp; done) | (trace_state; fail)) ?_
                      (simp only [Act.put, List.setIfInBounds_toArray, List.set_cons_succ, List.set_cons_zero])
                      refine wpY_load1 (by rfl) (by rfl) (by (first | exact wanted_none rfl | exact wanted_some rfl rfl)) kGates (by rfl) (by (repeat (first | exact List.Mem.head _ | refine List.Mem.tail _ ?_ | assumption))) (by rfl) ?_
                      (simp only [Act.put, List.setIfInBounds_toArray, List.set_cons_succ, List.set_cons_zero])
                      refine wpY_c (by rfl) (by (first | exact wanted_none rfl | exact wanted_some rfl rfl)) (by intro W _; first | (go_simp; rfl) | (go_simp; done) | (trace_state; fail)) ?_
                      (simp only [Act.put, List.setIfInBounds_toArray, List.set_cons_succ, List.set_cons_zero])
                      refine wpY_c (by rfl) (by (first | exact wanted_none rfl | exact wanted_some rfl rfl)) (by intro W _; first | (go_simp; rfl) | (go_simp; done) | (trace_state; fail)) ?_
                      (simp only [Act.put, List.setIfInBounds_toArray, List.set_cons_succ, List.set_cons_zero])
                      refine wpY_y (by rfl) (by (first | exact wanted_none rfl | exact wanted_some rfl rfl)) (fun G F W HF hG => ?_)
                      go_simp
                      unfold upY
                      refine Calls.mono (makeAt_any xx yy gx gy _ (by omega) (by omega) HF.out.tb Egx Egy) ?_
                      rintro _ W2 ⟨rfl, hb⟩
                      refine ⟨_, rfl, hG _ W2 _ (HF.out.go hb) (by (repeat (first | exact List.Sublist.refl _ | exact List.nil_sublist _ | exact List.sublist_append_right _ _ | refine List.Sublist.cons_cons _ ?_ | refine List.Sublist.cons _ ?_))) (fun x _ => Iff.rfl) ?_⟩
                      clear hG hb HF
                      clear G F W W2
                      (simp only [Act.put, List.setIfInBounds_toArray, List.set_cons_succ, List.set_cons_zero])
                      refine wpY_c (by rfl) (by (first | exact wanted_none rfl | exact wanted_some rfl rfl)) (by intro W _; first | (go_simp; rfl) | (go_simp; done) | (trace_state; fail)) ?_
                      (simp only [Act.put, List.setIfInBounds_toArray, List.set_cons_succ, List.set_cons_zero])
                      refine wpY_c (by rfl) (by (first | exact wanted_none rfl | exact wanted_some rfl rfl)) (by intro W _; first | (go_simp; rfl) | (go_simp; done) | (trace_state; fail)) ?_
                      (simp only [Act.put, List.setIfInBounds_toArray, List.set_cons_succ, List.set_cons_zero])
                      refine wpY_y (by rfl) (by (first | exact wanted_none rfl | exact wanted_some rfl rfl)) (fun G F W HF hG => ?_)
                      go_simp
                      unfold upY
                      have hX := nextH_any (m' := ((g4, 31, [.slice B k c, .slice B2 k2 c2, .slice B3 k3 c3, .slice Bs k4 cz, .slice Bg k5 cg, .bool false, .string ⟨#[]⟩, .string ⟨#[]⟩]) :: (g3, 93, [S5.sn.sn.sn.v]) :: (g2, 31, [.slice none 0 0, .slice none 0 0, .slice none 0 0, .slice none 0 0, .slice none 0 0, .bool false, .string ⟨#[]⟩, .string ⟨#[]⟩]) :: (rowE (.slice Bg k5 cg) 107 curg ++ E6)) ++ F) S5.sn.sn g3 12 HF HT2 (Lib.hid (by (repeat (first | apply Upd.head | apply Upd.tail | assumption)))) (by decide) (by decide)
                      rw [HP3.out] at hX
                      refine Calls.mono hX ?_
                      clear hX
                      rintro _ W2 ⟨rfl, h2⟩
                      refine ⟨_, rfl, hG _ _ ((g4, 31, [.slice B k c, .slice B2 k2 c2, .slice B3 k3 c3, .slice Bs k4 cz, .slice Bg k5 cg, .bool false, .string ⟨#[]⟩, .string ⟨#[]⟩]) :: (g3, 93, [S5.sn.sn.sn.v]) :: (g2, 31, [.slice none 0 0, .slice none 0 0, .slice none 0 0, .slice none 0 0, .slice none 0 0, .bool false, .string ⟨#[]⟩, .string ⟨#[]⟩]) :: (rowE (.slice Bg k5 cg) 107 curg ++ E6)) h2 (by (repeat (first | exact List.Sublist.refl _ | exact List.nil_sublist _ | exact List.sublist_append_right _ _ | refine List.Sublist.cons_cons _ ?_ | refine List.Sublist.cons _ ?_))) (Upd.fixed (b := g3) (T := 93) (by (repeat (first | apply Upd.head | apply Upd.tail | assumption))) (by rfl)) ?_⟩
                      clear HF hG h2
                      clear G F W W2
                      (simp only [Act.put, List.setIfInBounds_toArray, List.set_cons_succ, List.set_cons_zero])
                      refine wpY_c (by rfl) (by (first | exact wanted_none rfl | exact wanted_some rfl rfl)) (by intro W _; first | (go_simp; rfl) | (go_simp; done) | (trace_state; fail)) ?_
                      (simp only [Act.put, List.setIfInBounds_toArray, List.set_cons_succ, List.set_cons_zero])
                      refine wpY_c (by rfl) (by (first | exact wanted_none rfl | exact wanted_some rfl rfl)) (by intro W _; first | (go_simp; rfl) | (go_simp; done) | (trace_state; fail)) ?_
                      (simp only [Act.put, List.setIfInBounds_toArray, List.set_cons_succ, List.set_cons_zero])
                      refine wpY_c (by rfl) (by (first | exact wanted_none rfl | exact wanted_some rfl rfl)) (by intro W _; first | (go_simp; rfl) | (go_simp; done) | (trace_state; fail)) ?_
                      (simp only [Act.put, List.setIfInBounds_toArray, List.set_cons_succ, List.set_cons_zero])
                      refine wpY_y (by rfl) (by (first | exact wanted_none rfl | exact wanted_some rfl rfl)) (fun G F W HF hG => ?_)
                      go_simp
                      unfold upY
                      have hX := nextH_any (m' := ((g4, 31, [.slice B k c, .slice B2 k2 c2, .slice B3 k3 c3, .slice Bs k4 cz, .slice Bg k5 cg, .bool false, .string ⟨#[]⟩, .string ⟨#[]⟩]) :: (g3, 93, [S5.sn.sn.sn.sn.v]) :: (g2, 31, [.slice none 0 0, .slice none 0 0, .slice none 0 0, .slice none 0 0, .slice none 0 0, .bool false, .string ⟨#[]⟩, .string ⟨#[]⟩]) :: (rowE (.slice Bg k5 cg) 107 curg ++ E6)) ++ F) S5.sn.sn.sn g3 12 HF HT3 (Lib.hid (by (repeat (first | apply Upd.head | apply Upd.tail | assumption)))) (by decide) (by decide)
                      rw [HP4.out] at hX
                      refine Calls.mono hX ?_
                      clear hX
                      rintro _ W2 ⟨rfl, h2⟩
                      refine ⟨_, rfl, hG _ _ ((g4, 31, [.slice B k c, .slice B2 k2 c2, .slice B3 k3 c3, .slice Bs k4 cz, .slice Bg k5 cg, .bool false, .string ⟨#[]⟩, .string ⟨#[]⟩]) :: (g3, 93, [S5.sn.sn.sn.sn.v]) :: (g2, 31, [.slice none 0 0, .slice none 0 0, .slice none 0 0, .slice none 0 0, .slice none 0 0, .bool false, .string ⟨#[]⟩, .string ⟨#[]⟩]) :: (rowE (.slice Bg k5 cg) 107 curg ++ E6)) h2 (by (repeat (first | exact List.Sublist.refl _ | exact List.nil_sublist _ | exact List.sublist_append_right _ _ | refine List.Sublist.cons_cons _ ?_ | refine List.Sublist.cons _ ?_))) (Upd.fixed (b := g3) (T := 93) (by (repeat (first | apply Upd.head | apply Upd.tail | assumption))) (by rfl)) ?_⟩
                      clear HF hG h2
                      clear G F W W2
                      (simp only [Act.put, List.setIfInBounds_toArray, List.set_cons_succ, List.set_cons_zero])
                      refine wpY_c (by rfl) (by (first | exact wanted_none rfl | exact wanted_some rfl rfl)) (by intro W _; first | (go_simp; rfl) | (go_simp; done) | (trace_state; fail)) ?_
                      (simp only [Act.put, List.setIfInBounds_toArray, List.set_cons_succ, List.set_cons_zero])
                      refine wpY_y (by rfl) (by (first | exact wanted_none rfl | exact wanted_some rfl rfl)) (fun G F W HF hG => ?_)
                      go_simp
                      unfold upY
                      refine Calls.mono (makeAt_any uu vv gu gv _ (by omega) (by omega) HF.out.tb Egu Egv) ?_
                      rintro _ W2 ⟨rfl, hb⟩
                      refine ⟨_, rfl, hG _ W2 _ (HF.out.go hb) (by (repeat (first | exact List.Sublist.refl _ | exact List.nil_sublist _ | exact List.sublist_append_right _ _ | refine List.Sublist.cons_cons _ ?_ | refine List.Sublist.cons _ ?_))) (fun x _ => Iff.rfl) ?_⟩
                      clear hG hb HF
                      clear G F W W2
                      (simp only [Act.put, List.setIfInBounds_toArray, List.set_cons_succ, List.set_cons_zero])
                      refine wpY_c (by rfl) (by (first | exact wanted_none rfl | exact wanted_some rfl rfl)) (by intro W _; first | (go_simp; rfl) | (go_simp; done) | (trace_state; fail)) ?_
                      (simp only [Act.put, List.setIfInBounds_toArray, List.set_cons_succ, List.set_cons_zero])
                      refine wpY_c (by rfl) (by (first | exact wanted_none rfl | exact wanted_some rfl rfl)) (by intro W _; first | (go_simp; rfl) | (go_simp; done) | (trace_state; fail)) ?_
                      (simp only [Act.put, List.setIfInBounds_toArray, List.set_cons_succ, List.set_cons_zero])
                      refine wpY_V 107 ([.string ⟨#[100, 111, 111, 114]⟩, .bool (sgO (some gx)), .string (nuO (some gx)), .string (deO (some gx)), .bool (sgO (some gy)), .string (nuO (some gy)), .string (deO (some gy)), .bool (sgO (some gu)), .string (nuO (some gu)), .string (deO (some gu)), .bool (sgO (some gv)), .string (nuO (some gv)), .string (deO (some gv))]) 1 (by rfl) (by rfl) (by intro W; kernel_rfl) ?_
                      intro b5
                      (simp only [Act.put, List.setIfInBounds_toArray, List.set_cons_succ, List.set_cons_zero])
                      refine wpY_app [(b5, 107, [.string ⟨#[100, 111, 111, 114]⟩, .bool (sgO (some gx)), .string (nuO (some gx)), .string (deO (some gx)), .bool (sgO (some gy)), .string (nuO (some gy)), .string (deO (some gy)), .bool (sgO (some gu)), .string (nuO (some gu)), .string (deO (some gu)), .bool (sgO (some gv)), .string (nuO (some gv)), .string (deO (some gv))]), (g4, 31, [.slice B k c, .slice B2 k2 c2, .slice B3 k3 c3, .slice Bs k4 cz, .slice Bg k5 cg, .bool false, .string ⟨#[]⟩, .string ⟨#[]⟩]), (g3, 93, [S5.sn.sn.sn.sn.v]), (g2, 31, [.slice none 0 0, .slice none 0 0, .slice none 0 0, .slice none 0 0, .slice none 0 0, .bool false, .string ⟨#[]⟩, .string ⟨#[]⟩])] (E6) (by rfl) (by (first | exact wanted_none rfl | exact wanted_some rfl rfl)) R iGat (by decide) uGates (by rfl) (by rfl) (by rfl) (.head _) (by rfl) (by rfl) (by decide) (by unfold maxLen; omega) (by omega) (by rfl) (by intro x hx; rw [List.mem_singleton.1 hx]; exact List.mem_append_left _ (by (repeat (first | exact List.Mem.head _ | refine List.Mem.tail _ ?_ | assumption)))) (by rfl) (fun v4 cur4 R5 => ?_)
                      obtain ⟨B4, c4, hv4, hc4⟩ := R5.out.shape
                      subst hv4
                      clear hc4
                      (simp only [Act.put, List.setIfInBounds_toArray, List.set_cons_succ, List.set_cons_zero])
                      refine wpY_c (by rfl) (by (first | exact wanted_none rfl | exact wanted_some rfl rfl)) (by intro W _; first | (go_simp; rfl) | (go_simp; done) | (trace_state; fail)) ?_
                      (simp only [Act.put, List.setIfInBounds_toArray, List.set_cons_succ, List.set_cons_zero])
                      refine wpY_nil ?_
                      clear H
                      intro _ H
                      go_wp2_with (first
                          | go_skip
                          | ((with_reducible refine isStore ?_); refine st1A (hT := sGates) H ?_; clear H; intro _ H)
                          | ((with_reducible refine isLoad ?_); refine ldA H ?_)
                          | ((with_reducible refine isLoad ?_); refine ld1A H ?_)
                          | ((with_reducible refine isStore ?_); refine stA H ?_; clear H; intro _ H)
                          | ((with_reducible refine isStore ?_); refine st1A H ?_; clear H; intro _ H)
                          | ((with_reducible refine isBox ?_); refine bxA H ?_; clear H; intro _ _ H)
                          | ((with_reducible refine isAlloc ?_); refine alA H ?_; clear H; intro _ _ H))
                      have H5 := Lib.hid H.out.drop
                      clear H R
                      go_roundw
                      case rel => exact ⟨k5 + 1, S5.sn.sn.sn.sn, B4, c4, _, cur4, by go_num, by omega, HT4, R5, H5⟩
                      case measure => simp [intOf]; omega
                    · have hkn5 : k5 = gn := by omega
                      subst hkn5
                      replace H := Lib.hid (H.out.sub (l2 := (g4, 31, [.slice B k c, .slice B2 k2 c2, .slice B3 k3 c3, .slice Bs k4 cz, .slice Bg k5 cg, .bool false, .string ⟨#[]⟩, .string ⟨#[]⟩]) :: (g3, 93, [S5.v]) :: (g2, 31, [.slice none 0 0, .slice none 0 0, .slice none 0 0, .slice none 0 0, .slice none 0 0, .bool false, .string ⟨#[]⟩, .string ⟨#[]⟩]) :: (E6)) (by (repeat (first | exact List.Sublist.refl _ | exact List.nil_sublist _ | exact List.sublist_append_right _ _ | refine List.Sublist.cons_cons _ ?_ | refine List.Sublist.cons _ ?_))))
                      clear R xs
                      obtain ⟨q3, hq3⟩ : ∃ r, S5.nx 4 = r := ⟨_, rfl⟩
                      have bq3 : 0 ≤ q3 ∧ q3 < 4 := by rw [← hq3]; exact S5.nx_bd 4 (by decide)
                      obtain ⟨bq3l, bq3r⟩ := bq3
                      obtain ⟨wk, Ewk⟩ : ∃ z : Rat, Hid (ofQ q3 8 = z) := ⟨_, rfl⟩
                      go_wp2_with (first
                          | go_skip
                          | ((with_reducible refine isLoad ?_); refine ldA (hT := rWks) H ?_)
                          | ((with_reducible refine isStore ?_); refine stA (hT := rWks) H ?_; clear H; intro _ H)
                          | ((with_reducible refine isLoad ?_); refine ldA H ?_)
                          | ((with_reducible refine isLoad ?_); refine ld1A H ?_)
                          | ((with_reducible refine isStore ?_); refine stA H ?_; clear H; intro _ H)
                          | ((with_reducible refine isStore ?_); refine st1A H ?_; clear H; intro _ H)
                          | ((with_reducible refine isBox ?_); refine bxA H ?_; clear H; intro _ _ H)
                          | ((with_reducible refine isAlloc ?_); refine alA H ?_; clear H; intro _ _ H))
                      have hX := nextH_any (m' := (g4, 31, [.slice B k c, .slice B2 k2 c2, .slice B3 k3 c3, .slice Bs k4 cz, .slice Bg k5 cg, .bool false, .string ⟨#[]⟩, .string ⟨#[]⟩]) :: (g3, 93, [S5.sn.v]) :: (g2, 31, [.slice none 0 0, .slice none 0 0, .slice none 0 0, .slice none 0 0, .slice none 0 0, .bool false, .string ⟨#[]⟩, .string ⟨#[]⟩]) :: (E6)) S5 g3 4 H HS5 (Lib.hid (by (repeat (first | apply Upd.head | apply Upd.tail | assumption)))) (by decide) (by decide)
                      rw [hq3] at hX
                      refine hX.mono ?_
                      clear hX
                      rintro _ _ ⟨rfl, H2⟩
                      clear H
                      have H := Lib.hid H2
                      clear H2
                      go_wp2_with (first
                          | go_skip
                          | ((with_reducible refine isLoad ?_); refine ldA (hT := rWks) H ?_)
                          | ((with_reducible refine isStore ?_); refine stA (hT := rWks) H ?_; clear H; intro _ H)
                          | ((with_reducible refine isLoad ?_); refine ldA H ?_)
                          | ((with_reducible refine isLoad ?_); refine ld1A H ?_)
                          | ((with_reducible refine isStore ?_); refine stA H ?_; clear H; intro _ H)
                          | ((with_reducible refine isStore ?_); refine st1A H ?_; clear H; intro _ H)
                          | ((with_reducible refine isBox ?_); refine bxA H ?_; clear H; intro _ _ H)
                          | ((with_reducible refine isAlloc ?_); refine alA H ?_; clear H; intro _ _ H))
                      refine (ofQ_any q3 8 wk _ (by omega) (by omega) (by decide) (by decide) Ewk).mono ?_
                      rintro _ _ ⟨rfl, hb⟩
                      replace H := Lib.hid (H.out.go hb)
                      clear hb
                      go_wp2_with (first
                          | go_skip
                          | ((with_reducible refine isLoad ?_); refine ldA (hT := rWks) H ?_)
                          | ((with_reducible refine isStore ?_); refine stA (hT := rWks) H ?_; clear H; intro _ H)
                          | ((with_reducible refine isLoad ?_); refine ldA H ?_)
                          | ((with_reducible refine isLoad ?_); refine ld1A H ?_)
                          | ((with_reducible refine isStore ?_); refine stA H ?_; clear H; intro _ H)
                          | ((with_reducible refine isStore ?_); refine st1A H ?_; clear H; intro _ H)
                          | ((with_reducible refine isBox ?_); refine bxA H ?_; clear H; intro _ _ H)
                          | ((with_reducible refine isAlloc ?_); refine alA H ?_; clear H; intro _ _ H))
                      refine bodyPost_ret (results_H H Tryz.results23 rWks rfl (by (repeat (first | exact List.Mem.head _ | refine List.Mem.tail _ ?_ | assumption))) (by rfl)) rfl ⟨_, ps, ss, ws, rfl, ⟨_, H.out, fun W hW => ?_⟩, fun p hp => (HP5.out p hp).1, HSS.out, fun p hp => (HW5.out p hp).1, by omega, by omega, by omega, H.out.bel⟩
                      subst hwl; subst hpl; subst hsl
                      exact ⟨⟨_, _, _, _, _, _, _, _, _, _, _, _, _, _, _, rfl, ⟨_, R2.out, fun x hx => hW x (.tail _ (.tail _ (.tail _ (HE6b.out _ (HE5c.out _ hx)))))⟩, ⟨_, R3.out, fun x hx => hW x (.tail _ (.tail _ (.tail _ (HE6b.out _ (HE5a.out _ hx)))))⟩, ⟨_, R4.out, fun x hx => hW x (.tail _ (.tail _ (.tail _ (HE6a.out _ hx))))⟩⟩,
                        fun p hp => (HP5.out p hp).2.vatW (fun x hx => hW x (.tail _ (.tail _ (.tail _ (HE6b.out _ hx))))), fun p hp => (HW5.out p hp).2.vatW (fun x hx => hW x (.tail _ (.tail _ (.tail _ (HE6b.out _ hx)))))⟩
end Go.Proofs.YtmfejdikfpckdaaGreatDoor

namespace Go.Proofs.YtmfejdikfpckdaaGreatDoor
open Go.RowKit
set_option linter.unusedVariables false
set_option maxRecDepth 100000

/-- Twice the area, in quarters. -/
def crI (a b c : Int × Int) : Int := (b.1 - a.1) * (c.2 - a.2) - (b.2 - a.2) * (c.1 - a.1)
def cvxI (l : List (Int × Int)) : Bool := decide (3 ≤ l.length) && (List.range l.length).all fun i => (List.range l.length).all fun j => decide (j = i) || decide (j = (i + 1) % l.length) || decide (0 < crI (l.getD i (0, 0)) (l.getD ((i + 1) % l.length) (0, 0)) (l.getD j (0, 0)))
def qP (p : Int × Int) : Rat × Rat := (ofQ p.1 4, ofQ p.2 4)
theorem ofQ4 (z : Int) : ofQ z 4 = (z : Rat) * ofQ 1 4 := by
  unfold ofQ
  rw [Rat.mkRat_eq_div, Rat.mkRat_eq_div]
  rw [Rat.div_def, Rat.div_def]
  have : ((1 : Int) : Rat) = 1 := rfl
  rw [this, Rat.one_mul]
theorem cr_qP (a b c : Int × Int) : FitT.cr (qP a) (qP b) (qP c) = (crI a b c : Rat) * (ofQ 1 4 * ofQ 1 4) := by
  unfold FitT.cr qP crI
  simp only [ofQ4 a.1, ofQ4 a.2, ofQ4 b.1, ofQ4 b.2, ofQ4 c.1, ofQ4 c.2]
  rw [Rat.intCast_sub, Rat.intCast_mul, Rat.intCast_mul, Rat.intCast_sub, Rat.intCast_sub, Rat.intCast_sub, Rat.intCast_sub]
  grind
theorem cvxI_ok {l : List (Int × Int)} (h : cvxI l = true) : FitT.Cvx (l.map qP) := by
  unfold cvxI at h
  rw [Bool.and_eq_true, decide_eq_true_eq] at h
  refine ⟨by rw [List.length_map]; exact h.1, fun i j a b c ha hb hc h1 h2 => ?_⟩
  rw [List.length_map] at hb h2
  rw [List.getElem?_map] at ha hb hc
  obtain ⟨a', ha', rfl⟩ := Option.map_eq_some_iff.1 ha
  obtain ⟨b', hb', rfl⟩ := Option.map_eq_some_iff.1 hb
  obtain ⟨c', hc', rfl⟩ := Option.map_eq_some_iff.1 hc
  have hi := (List.getElem?_eq_some_iff.1 ha').1
  have hj := (List.getElem?_eq_some_iff.1 hc').1
  have h3 := List.all_eq_true.1 (List.all_eq_true.1 h.2 i (by simpa using hi)) j (by simpa using hj)
  simp only [h1, h2, decide_false, Bool.false_or, decide_eq_true_eq, List.getD_eq_getElem?_getD, ha', hb', hc', Option.getD_some] at h3
  rw [cr_qP]
  have h4 : (0 : Rat) < (crI a' b' c' : Rat) := Rat.intCast_pos.2 h3
  have h5 : (0 : Rat) < ofQ 1 4 := by decide +kernel
  exact Rat.mul_pos h4 (Rat.mul_pos h5 h5)
def polyI (a h k x : Int) : List (Int × Int) :=
  if k = 0 then [(-a, -h), (a, -h), (a, h), (-a, h)] else if k = 1 then [(-a, -h), (a, -h), (x - a, h)] else if k = 2 then [(-a - 1, -h - 1), (a, -h - 1), (a + 1, -h), (a + 1, h), (-a - 1, h)] else [(-a, 0), (0, -h), (a, 0), (0, h)]
theorem polyC_I (a h k x : Int) : polyC a h k x = (polyI a h k x).map qP := by
  unfold polyC polyI
  repeat' split
  all_goals rfl
theorem polyI_all : ((List.range 6).all fun a => (List.range 6).all fun h => (List.range 4).all fun k => (List.range 13).all fun x => cvxI (polyI (a + 1 : Nat) (h + 1 : Nat) (k : Nat) (x : Nat))) = true := by decide +kernel
theorem polyI_ok {a h k x : Int} (ha : 1 ≤ a ∧ a ≤ 6) (hh : 1 ≤ h ∧ h ≤ 6) (hk : 0 ≤ k ∧ k < 4) (hx : 0 ≤ x ∧ x ≤ 12) : cvxI (polyI a h k x) = true := by
  have h1 := List.all_eq_true.1 polyI_all (a - 1).toNat (by simp; omega)
  have h2 := List.all_eq_true.1 h1 (h - 1).toNat (by simp; omega)
  have h3 := List.all_eq_true.1 h2 k.toNat (by simp; omega)
  have h4 := List.all_eq_true.1 h3 x.toNat (by simp; omega)
  rw [show (((a - 1).toNat + 1 : Nat) : Int) = a by omega, show (((h - 1).toNat + 1 : Nat) : Int) = h by omega, show ((k.toNat : Nat) : Int) = k by omega, show ((x.toNat : Nat) : Int) = x by omega] at h4
  exact h4
theorem polyL_cvx (S : Sd) : FitT.Cvx (polyL S) := by
  have n1 := S.nx_bd 6 (by decide)
  have n2 := S.sn.nx_bd 6 (by decide)
  have n3 := S.s2.nx_bd 4 (by decide)
  have n4 := S.s2.sn.nx_bd (2 * (1 + S.nx 6) + 1) (by omega)
  unfold polyL
  rw [polyC_I]
  exact cvxI_ok (polyI_ok (by omega) (by omega) n3 (by omega))
theorem polyL_len (S : Sd) : (polyL S).length ≤ 5 := by
  unfold polyL polyC
  repeat' split
  all_goals simp
theorem pok_of {p : PrtE} (h : ∃ T, p.l = polyL T) : POK p := by
  obtain ⟨T, h⟩ := h
  refine ⟨?_, ?_, ?_⟩
  · rw [h]
    obtain ⟨v0, vs, e, _, h2⟩ := polyL_ok T
    intro q hq
    rw [e] at hq
    exact h2 q hq
  · rw [h]; exact polyL_cvx T
  · rw [h]; have := polyL_len T; omega
theorem sok_of {s : SltE} (h : SKE s) : SOK s := by
  obtain ⟨a, b, t, d, h1, h2, h3, h4, h5, h6, h7, h8⟩ := h
  refine ⟨?_, ?_, ?_, ?_, ?_⟩
  · rw [h1]; exact ofQ_sz a 4 1 (by omega) (by decide) (by decide)
  · rw [h2]; exact ofQ_sz b 4 1 (by omega) (by decide) (by decide)
  · rw [h3]; exact ofQ_sz t 2 1 (by omega) (by decide) (by decide)
  · rw [h4]; exact ofQ_sz 1 d 1 (by decide) (by omega) (by omega)
  · rw [h4]
    show (0 : Rat) ≤ ofQ 1 d
    unfold ofQ
    rw [Rat.mkRat_eq_div, Rat.div_def]
    have hd : (0 : Rat) < (d : Rat) := by
      have h9 := Rat.intCast_pos.2 (show (0 : Int) < (d : Int) by omega)
      exact h9
    have hne : (d : Rat) ≠ 0 := fun e => by rw [e] at hd; exact absurd hd (by decide)
    refine FitT.nonneg_of_mul (y := (d : Rat)) ?_ hd
    rw [Rat.mul_assoc, Rat.inv_mul_cancel _ hne]
    decide +kernel
end Go.Proofs.YtmfejdikfpckdaaGreatDoor

namespace Go.Proofs.YtmfejdikfpckdaaGreatDoor
open Go.RowKit
set_option linter.unusedVariables false
set_option maxRecDepth 100000

theorem ofQ4_lt {a b : Int} (h : a < b) : ofQ a 4 < ofQ b 4 := by
  rw [ofQ4 a, ofQ4 b]
  have h4 : (0 : Rat) < ((b - a : Int) : Rat) := Rat.intCast_pos.2 (by omega)
  have h5 : (0 : Rat) < ofQ 1 4 := by decide +kernel
  have h6 := Rat.mul_pos h4 h5
  rw [Rat.intCast_sub] at h6
  grind
theorem WOK.rect {x : WalE} (h : WOK x) : ∃ a b c d : Rat, x.l = FitT.rectV a b c d ∧ a < c ∧ b < d := by
  obtain ⟨a, b, c, d, h1, h2, h3, _⟩ := h
  exact ⟨_, _, _, _, h1, ofQ4_lt h2, ofQ4_lt h3⟩
theorem WOK.cvx {x : WalE} (h : WOK x) : FitT.Cvx x.l := by
  obtain ⟨a, b, c, d, h1, h2, h3⟩ := h.rect
  rw [h1]
  exact FitT.rect_cvx h2 h3
theorem WOK.len {x : WalE} (h : WOK x) : x.l.length = 4 := by
  obtain ⟨a, b, c, d, h1, _, _⟩ := h.rect
  rw [h1]; rfl
theorem WOK.sz {x : WalE} (h : WOK x) : ∀ q ∈ x.l, Sz 29 q.1 ∧ Sz 29 q.2 := by
  obtain ⟨a, b, c, d, h1, h2, h3, h4, h5, h6, h7⟩ := h
  have z : ∀ n : Int, -1000 ≤ n → n ≤ 1000 → Sz 29 (ofQ n 4) := fun n g1 g2 => ofQ_sz n 4 29 (Nat.lt_of_le_of_lt (show n.natAbs ≤ 1000 by omega) (by decide)) (by decide) (by decide)
  intro q hq
  rw [h1] at hq
  simp only [rectI, FitT.rectV, List.mem_cons, List.not_mem_nil, or_false] at hq
  rcases hq with rfl | rfl | rfl | rfl
  · exact ⟨z a h4 (by omega), z b h6 (by omega)⟩
  · exact ⟨z c (by omega) h5, z b h6 (by omega)⟩
  · exact ⟨z c (by omega) h5, z d (by omega) h7⟩
  · exact ⟨z a h4 (by omega), z d (by omega) h7⟩
/-- A part in a slot, with its tolerance, meets none of the walls. -/
def ClrP (p : PrtE) (s : SltE) (ws : List WalE) : Prop := ∀ x ∈ ws, FitT.Apt (lzF p s) x.l
noncomputable def clrB (p : PrtE) (s : SltE) (ws : List WalE) : Bool := @decide (ClrP p s ws) (Classical.propDecidable _)
theorem clrB_iff {p : PrtE} {s : SltE} {ws : List WalE} : clrB p s ws = true ↔ ClrP p s ws := by unfold clrB; exact @decide_eq_true_iff _ (Classical.propDecidable _)
/-- Without its tolerance. -/
def SltE.tight (s : SltE) : SltE := { s with by_ := some 0 }
theorem SOK.tight {s : SltE} (h : SOK s) : SOK s.tight := ⟨h.x, h.y, h.t, Sz.zero, Rat.le_refl⟩
theorem clr_less {p : PrtE} {s : SltE} {ws : List WalE} (hp : POK p) (hs : SOK s) (hw : ∀ x ∈ ws, WOK x) (h : ClrP p s ws) : (∀ x ∈ ws, FitT.Apt (plc p s) x.l) ∧ ClrP p s.tight ws := by
  have k : ∀ x ∈ ws, FitT.Apt (plc p s) x.l ∧ FitT.Apt (lzF p s.tight) x.l := fun x hx => by
    obtain ⟨a, b, c, d, h1, h2, h3⟩ := (hw x hx).rect
    have h4 := h x hx
    rw [h1] at h4 ⊢
    exact FitT.clear_less h2 h3 hs.b0 (plc_cvx hp) h4
  exact ⟨fun x hx => (k x hx).1, fun x hx => (k x hx).2⟩
theorem ClrP.nil (p : PrtE) (s : SltE) : ClrP p s [] := fun x h => by cases h
end Go.Proofs.YtmfejdikfpckdaaGreatDoor

namespace Go.Proofs.YtmfejdikfpckdaaGreatDoor
open Go.RowKit
set_option linter.unusedVariables false
set_option maxRecDepth 100000

set_option maxHeartbeats 8000000 in
theorem fitClear_any (v : Value) (ps : List PrtE) (ss : List SltE) (ws : List WalE) (p : PrtE) (s : SltE) (i j : Nat) (w : World) (W : Hid (WkF w v ps ss ws)) (hp : Hid (ps[i]? = some p)) (hs : Hid (ss[j]? = some s)) (hP : POK p) (hS : SOK s) (hw : Hid (∀ x ∈ ws, WOK x)) (hps : ps.length ≤ 1000) (hss : ss.length ≤ 1000) (hws : ws.length ≤ 1000) (hT : Tb w) :
    Calls Tryz.prog 17 #[v, .int .i64 i, .int .i64 j] w fun e w' => e = .returned (.tuple #[.bool (clrB p s ws), .int .i64 0]) ∧ Below w.heap.size w w' := by
  have H := Lib.hid (Hp.start hT)
  clear hT
  have W0 := W
  obtain ⟨⟨a1, a2, a3, a4, a5, n1, n5, c1, c2, c3, c4, c5, wb, w1, w2, rfl, RW, RP, RS⟩, HPL, HWL⟩ := W.out
  have RWH := Lib.hid RW
  have HWLH := Lib.hid HWL
  clear W RW RP RS HPL HWL
  obtain ⟨n, hn⟩ : ∃ n, ws.length = n := ⟨_, rfl⟩
  rw [hn] at hws W0 RWH
  rw [hn]
  have HN := Lib.hid hn
  clear hn
  go_enter Tryz.func17, Tryz.ntmps17
  go_wp2_with (first
      | ((with_reducible refine isLoad ?_); refine ldA (hT := rWks) H ?_)
      | ((with_reducible refine isBox ?_); refine bxA H ?_; clear H; intro _ _ H))
  refine (looseF_any _ ps ss ws p s i j _ (Lib.hid (W0.out.below H.out.bel)) hp hs hP hS hps hss H.out.tb).mono ?_
  rintro _ _ ⟨out, rfl, hv⟩
  obtain ⟨gl, cl, more, hvl, hcl, HV⟩ := hv
  subst hvl
  replace H := Lib.hid (H.out.join HV)
  clear HV
  go_wp2_with (first
      | ((with_reducible refine isLoad ?_); refine ld1A (hT := kWalls) H ?_))
  rename_i g3 W3 W4 K8 hK8
  go_loopw [29, 10] (fun i_ f_ wr => ∃ (m : Nat) (fl : Bool), i_ = .int .i64 m ∧ f_ = .bool fl ∧ m ≤ n ∧ Hid (fl = true ↔ ∀ j x, j < m → ws[j]? = some x → FitT.Apt (lzF p s) x.l) ∧ Hid (Hp w wr [(gl, 44, vecC (lzF p s) ++ more), (g3, 31, [.slice a1 n1 c1, .slice a2 n c2, .slice a3 ps.length c3, .slice a4 ss.length c4, .slice a5 n5 c5, .bool wb, .string w1, .string w2])])) (fun i_ _ _ => n - (intOf i_).toNat)
  case atStart => exact ⟨0, true, rfl, rfl, by omega, ⟨fun _ j x h => absurd h (by omega), fun _ => rfl⟩, H⟩
  case round =>
    clear H
    obtain ⟨m, fl, rfl, rfl, hm, HF, H⟩ := hrel
    by_cases hlt : m < n
    · obtain ⟨x, HX⟩ : ∃ x, Hid (ws[m]? = some x) := ⟨_, Lib.hid (List.getElem?_eq_getElem (by rw [HN.out]; exact hlt))⟩
      have HOX : Hid (WOK x) := hw.out x (List.mem_of_getElem? HX.out)
      obtain ⟨gw, cw, curW, ew, XW0, hxw, hjw⟩ := RWH.out.at_ walC_len HX.out (by decide)
      cases ew
      have XW := Lib.hid XW0
      have HXW : Hid (curW[m]? = some (.slice x.sA x.sn x.sc)) := by
        have h1 := congrArg (fun l => l[0]?) hxw
        unfold Hid
        simpa [walC, List.getElem?_take, List.getElem?_drop] using h1
      have VX : Hid (VAt w (.slice x.sA x.sn x.sc) x.l) := HWLH.out x (List.mem_of_getElem? HX.out)
      have ZX : Hid (∀ q ∈ x.l, Sz 29 q.1 ∧ Sz 29 q.2) := HOX.out.sz
      have CX : Hid (FitT.Cvx x.l) := HOX.out.cvx
      have LX : (x.l.length : Int) ≤ 8 := by rw [HOX.out.len]; decide
      clear XW0 hxw
      go_wp2_with (first
          | ((with_reducible refine isLoad ?_); refine ld1O H XW HXW kVecs ?_))
      refine (polyCheckW_any (k := 29) _ x.l _ (by decide) (Lib.hid (VX.out.below H.out.bel)) ZX CX LX H.out.tb).mono ?_
      rintro _ _ ⟨rfl, hb⟩
      replace H := Lib.hid (H.out.go hb)
      clear hb
      go_wp2_with (first
          | go_skip)
      refine (meet_any (k := 40) _ _ (lzF p s) x.l _ (by decide) (Lib.hid ⟨gl, cl, _, more, rfl, hcl, (H.out.blk (gl, 44, vecC (lzF p s) ++ more) (by (repeat (first | exact List.Mem.head _ | refine List.Mem.tail _ ?_ | assumption)))).2⟩) (Lib.hid (VX.out.below H.out.bel)) (lz_sz hP hS) (Lib.hid fun q hq => ⟨(ZX.out q hq).1.mono (by decide), (ZX.out q hq).2.mono (by decide)⟩) (lz_cvx hP) CX (lz_len hP) (by omega) H.out.tb).mono ?_
      rintro _ _ ⟨⟨r, rfl, hr⟩, hb⟩
      replace H := Lib.hid (H.out.go hb)
      have HR := Lib.hid hr
      clear hb hr
      cases r with
      | true =>
        go_wp2_with (first
            | go_skip)
        go_roundw
        case rel => exact ⟨m + 1, false, by go_num, rfl, by omega, ⟨(fun e => by cases e), fun hh => absurd (hh m x (by omega) HX.out) (HR.out.1 (by first | trivial | rfl))⟩, H⟩
        case measure => simp [intOf]; omega
      | false =>
        have AP : Hid (FitT.Apt (lzF p s) x.l) := Classical.byContradiction fun h => by have h5 := HR.out.2 h; cases h5
        go_wp2_with (first
            | go_skip)
        go_roundw
        case rel => exact ⟨m + 1, fl, by go_num, rfl, by omega, ⟨fun e j y hj hy => (by
            rcases Nat.lt_or_ge j m with q | q
            · exact HF.out.1 e j y q hy
            · have : j = m := by omega
              subst this
              rw [HX.out] at hy
              cases hy
              exact AP.out), fun hh => HF.out.2 fun j y hj hy => hh j y (by omega) hy⟩, H⟩
        case measure => simp [intOf]; omega
    · have ec : clrB p s ws = fl := Bool.eq_iff_iff.2 ⟨fun h => HF.out.2 fun j x hj hx => clrB_iff.1 h x (List.mem_of_getElem? hx), fun h => clrB_iff.2 fun x hx => by
        obtain ⟨j, hj⟩ := List.getElem?_of_mem hx
        exact HF.out.1 h j x (by have := (List.getElem?_eq_some_iff.1 hj).1; have := HN.out; omega) hj⟩
      have EC := Lib.hid ec
      clear ec HF
      have hmn : m = n := by omega
      subst hmn
      go_wp2_with (first
          | go_skip)
      go_ret2
      refine ⟨?_, H.out.bel⟩
      rw [EC.out]
      rfl
end Go.Proofs.YtmfejdikfpckdaaGreatDoor

namespace Go.Proofs.YtmfejdikfpckdaaGreatDoor
open Go.RowKit
set_option linter.unusedVariables false
set_option maxRecDepth 100000

set_option maxHeartbeats 8000000 in
theorem fitApart0_any (v : Value) (ps : List PrtE) (ss : List SltE) (ws : List WalE) (p : PrtE) (s : SltE) (i j : Nat) (w : World) (W : Hid (WkF w v ps ss ws)) (hp : Hid (ps[i]? = some p)) (hs : Hid (ss[j]? = some s)) (hP : POK p) (hS : SOK s) (hw : Hid (∀ x ∈ ws, WOK x)) (hps : ps.length ≤ 1000) (hss : ss.length ≤ 1000) (hws : ws.length ≤ 1000) (hT : Tb w) (h0 : ws.length = 0) :
    Calls Tryz.prog 19 #[v, .int .i64 i, .int .i64 j] w fun e w' => e = .returned (.tuple #[.agg #[.bool false, .string ⟨#[]⟩, .string ⟨#[]⟩], .int .i64 4]) ∧ Below w.heap.size w w' := by
  have H := Lib.hid (Hp.start hT)
  clear hT
  have W0 := W
  obtain ⟨⟨a1, a2, a3, a4, a5, n1, n5, c1, c2, c3, c4, c5, wb, w1, w2, rfl, RW, RP, RS⟩, HPL, HWL⟩ := W.out
  have RWH := Lib.hid RW
  have HWLH := Lib.hid HWL
  clear W RW RP RS HPL HWL
  obtain ⟨n, hn⟩ : ∃ n, ws.length = n := ⟨_, rfl⟩
  rw [hn] at hws W0 RWH
  rw [hn]
  have HN := Lib.hid hn
  clear hn
  have n0 : n = 0 := by rw [← HN.out]; exact h0
  subst n0
  go_enter Tryz.func19, Tryz.ntmps19
  go_wp2_with (first
      | ((with_reducible refine isLoad ?_); refine ldA (hT := rWks) H ?_)
      | ((with_reducible refine isBox ?_); refine bxA H ?_; clear H; intro _ _ H)
      | ((with_reducible refine isAlloc ?_); refine alA H ?_; clear H; intro _ _ H))
  refine (place_any _ ps ss ws p s i j _ (Lib.hid (W0.out.below H.out.bel)) hp hs (Lib.hid hP.z) (Lib.hid hP.c) hP.l (Lib.hid hS.x) (Lib.hid hS.y) (Lib.hid hS.t) hps hss H.out.tb).mono ?_
  rintro _ _ ⟨out, rfl, hv⟩
  obtain ⟨gl, cl, more, hvl, hcl, HV⟩ := hv
  subst hvl
  replace H := Lib.hid (H.out.join HV)
  clear HV
  go_wp2_with (first
      | ((with_reducible refine isLoad ?_); refine ld1A (hT := kWalls) H ?_)
      | ((with_reducible refine isStore ?_); refine stA H ?_; clear H; intro _ H))
  exact bodyPost_ret (results_Hv H Tryz.results19 (by (first | exact rRat | exact rSpan | exact rPose | exact rFrame | exact rVec | exact rTurn | exact rBox)) rfl (by (repeat (first | exact List.Mem.head _ | refine List.Mem.tail _ ?_ | assumption))) (by rfl) (by rfl)) rfl ⟨rfl, H.out.bel⟩
end Go.Proofs.YtmfejdikfpckdaaGreatDoor

namespace Go.Proofs.YtmfejdikfpckdaaGreatDoor
open Go.RowKit
set_option linter.unusedVariables false
set_option maxRecDepth 100000

theorem plc_len {p : PrtE} {s : SltE} (hp : POK p) : ((plc p s).length : Int) ≤ 64 := by
  have h3 : (plc p s).length = p.l.length := List.length_map ..
  have := hp.l
  omega
set_option maxHeartbeats 2000000 in
theorem fitApart1_any (v : Value) (ps : List PrtE) (ss : List SltE) (ws : List WalE) (p : PrtE) (s : SltE) (i j : Nat) (w : World) (W : Hid (WkF w v ps ss ws)) (hp : Hid (ps[i]? = some p)) (hs : Hid (ss[j]? = some s)) (hP : POK p) (hS : SOK s) (hw : Hid (∀ x ∈ ws, WOK x)) (hps : ps.length ≤ 1000) (hss : ss.length ≤ 1000) (hws : ws.length ≤ 1000) (hT : Tb w) (h0 : 0 < ws.length) :
    Calls Tryz.prog 19 #[v, .int .i64 i, .int .i64 j] w fun e w' => (∃ z : Rat, e = .returned (.tuple #[.agg #[.bool (sgO (some z)), .string (nuO (some z)), .string (deO (some z))], .int .i64 0]) ∧ Sz 711 z ∧ ((∀ x ∈ ws, FitT.Apt (plc p s) x.l) → 0 < z)) ∧ Below w.heap.size w w' := by
  have H := Lib.hid (Hp.start hT)
  clear hT
  have W0 := W
  obtain ⟨⟨a1, a2, a3, a4, a5, n1, n5, c1, c2, c3, c4, c5, wb, w1, w2, rfl, RW, RP, RS⟩, HPL, HWL⟩ := W.out
  have RWH := Lib.hid RW
  have HWLH := Lib.hid HWL
  clear W RW RP RS HPL HWL
  obtain ⟨n, hn⟩ : ∃ n, ws.length = n := ⟨_, rfl⟩
  rw [hn] at hws W0 RWH
  rw [hn]
  have HN := Lib.hid hn
  clear hn
  have npos : 0 < n := by rw [← HN.out]; exact h0
  clear h0
  go_enter Tryz.func19, Tryz.ntmps19
  go_wp2_with (first
      | ((with_reducible refine isLoad ?_); refine ldA (hT := rWks) H ?_)
      | ((with_reducible refine isBox ?_); refine bxA H ?_; clear H; intro _ _ H)
      | ((with_reducible refine isAlloc ?_); refine alA H ?_; clear H; intro _ _ H))
  refine (place_any _ ps ss ws p s i j _ (Lib.hid (W0.out.below H.out.bel)) hp hs (Lib.hid hP.z) (Lib.hid hP.c) hP.l (Lib.hid hS.x) (Lib.hid hS.y) (Lib.hid hS.t) hps hss H.out.tb).mono ?_
  rintro _ _ ⟨out, rfl, hv⟩
  obtain ⟨gl, cl, more, hvl, hcl, HV⟩ := hv
  subst hvl
  replace H := Lib.hid (H.out.join HV)
  clear HV
  have ZPL : Hid (∀ q ∈ (p.l.map (putV s.x s.y s.t)), Sz 29 q.1 ∧ Sz 29 q.2) := plc_sz hP hS
  have CPL : Hid (FitT.Cvx (p.l.map (putV s.x s.y s.t))) := plc_cvx hP
  have LPL : ((p.l.map (putV s.x s.y s.t)).length : Int) ≤ 64 := plc_len hP
  go_wp2_with (first
      | ((with_reducible refine isLoad ?_); refine ld1A (hT := kWalls) H ?_)
      | ((with_reducible refine isAlloc ?_); refine alA H ?_; clear H; intro _ _ H))
  rename_i g3 W3 g6 W6 V6 n0e g10 W8 K8 hK8
  rw [n0e]
  go_loopw [35] (fun i_ wr => ∃ (m : Nat) (r : Option Rat), i_ = .int .i64 m ∧ m ≤ n ∧ Hid (0 < m → ∃ z, r = some z ∧ Sz 711 z ∧ ((∀ j x, j < m → ws[j]? = some x → FitT.Apt (plc p s) x.l) → 0 < z)) ∧ Hid (Hp w wr [(g10, 29, [.bool (sgO r), .string (nuO r), .string (deO r)]), (gl, 44, vecC (p.l.map (putV s.x s.y s.t)) ++ more), (g6, 29, [.bool false, .string ⟨#[]⟩, .string ⟨#[]⟩]), (g3, 31, [.slice a1 n1 c1, .slice a2 n c2, .slice a3 ps.length c3, .slice a4 ss.length c4, .slice a5 n5 c5, .bool wb, .string w1, .string w2])])) (fun i_ _ => n - (intOf i_).toNat)
  case atStart => exact ⟨0, none, rfl, by omega, (fun h => absurd h (by omega)), H⟩
  case round =>
    clear H
    obtain ⟨m, r, rfl, hm, HF, H⟩ := hrel
    by_cases hlt : m < n
    · obtain ⟨x, HX⟩ : ∃ x, Hid (ws[m]? = some x) := ⟨_, Lib.hid (List.getElem?_eq_getElem (by rw [HN.out]; exact hlt))⟩
      have HOX : Hid (WOK x) := hw.out x (List.mem_of_getElem? HX.out)
      obtain ⟨gw, cw, curW, ew, XW0, hxw, hjw⟩ := RWH.out.at_ walC_len HX.out (by decide)
      cases ew
      have XW := Lib.hid XW0
      have HXW : Hid (curW[m]? = some (.slice x.sA x.sn x.sc)) := by
        have h1 := congrArg (fun l => l[0]?) hxw
        unfold Hid
        simpa [walC, List.getElem?_take, List.getElem?_drop] using h1
      have VX : Hid (VAt w (.slice x.sA x.sn x.sc) x.l) := HWLH.out x (List.mem_of_getElem? HX.out)
      have ZX : Hid (∀ q ∈ x.l, Sz 29 q.1 ∧ Sz 29 q.2) := HOX.out.sz
      have CX : Hid (FitT.Cvx x.l) := HOX.out.cvx
      have LX : (x.l.length : Int) ≤ 8 := by rw [HOX.out.len]; decide
      clear XW0 hxw
      go_wp2_with (first
          | ((with_reducible refine isLoad ?_); refine ld1O H XW HXW kVecs ?_))
      refine (polyCheckW_any (k := 29) _ x.l _ (by decide) (Lib.hid (VX.out.below H.out.bel)) ZX CX LX H.out.tb).mono ?_
      rintro _ _ ⟨rfl, hb⟩
      replace H := Lib.hid (H.out.go hb)
      clear hb
      go_wp2_with (first
          | go_skip)
      refine (sq_any (k := 29) _ _ (p.l.map (putV s.x s.y s.t)) x.l _ (by decide) (Lib.hid ⟨gl, cl, _, more, by rw [List.length_map], hcl, (H.out.blk (gl, 44, vecC (p.l.map (putV s.x s.y s.t)) ++ more) (by (repeat (first | exact List.Mem.head _ | refine List.Mem.tail _ ?_ | assumption)))).2⟩) (Lib.hid (VX.out.below H.out.bel)) ZPL ZX CPL CX LPL (by omega) H.out.tb).mono ?_
      rintro _ _ ⟨⟨z, rfl, hz1, hz2⟩, hb⟩
      replace H := Lib.hid (H.out.go hb)
      have HZ1 := Lib.hid hz1
      have HZ2 := Lib.hid hz2
      clear hb hz1 hz2
      by_cases m0 : m = 0
      · subst m0
        go_wp2_with (first
            | ((with_reducible refine isLoad ?_); refine ldA H ?_)
            | ((with_reducible refine isStore ?_); refine stA H ?_; clear H; intro _ H)
            | ((with_reducible refine isAlloc ?_); refine alA H ?_; clear H; intro _ _ H))
        replace H := Lib.hid H.out.drop
        go_roundw
        case rel => exact ⟨0 + 1, some z, by go_num, by omega, (fun _ => ⟨z, rfl, HZ1.out, fun hh => HZ2.out (hh 0 x (by omega) HX.out)⟩), H⟩
        case measure => simp [intOf]; omega
      · obtain ⟨z0, hr0, hz0, hp0⟩ := HF.out (by omega)
        have HP0 := Lib.hid hp0
        have HS0 := Lib.hid hz0
        clear hp0 hz0
        subst hr0
        have Sz1 : SmO (some z) := Sz.o HZ1.out (by decide)
        have Sz0 : SmO (some z0) := Sz.o HS0.out (by decide)
        obtain ⟨c, Ec⟩ : ∃ c, Hid (cmpQ (valO (some z)) (valO (some z0)) = c) := ⟨_, rfl⟩
        have m1 : ¬ ((m : Int) = 0) := by omega
        have m2 : ((m : Int) == 0) = false := beq_false_of_ne m1
        by_cases hc : c < 0
        · skip
          go_wp2_with (first
              | ((with_reducible refine isLoad ?_); refine ldA H ?_)
              | ((with_reducible refine isStore ?_); refine stA H ?_; clear H; intro _ H)
              | ((with_reducible refine isAlloc ?_); refine alA H ?_; clear H; intro _ _ H))
          refine (RCmp_any (some z) (some z0) c _ Sz1 Sz0 Ec H.out.tb).mono ?_
          rintro _ _ ⟨rfl, hb⟩
          replace H := Lib.hid (H.out.go hb)
          clear hb
          go_wp2_with (first
              | ((with_reducible refine isLoad ?_); refine ldA H ?_)
              | ((with_reducible refine isStore ?_); refine stA H ?_; clear H; intro _ H))
          replace H := Lib.hid H.out.drop
          go_roundw
          case rel => exact ⟨m + 1, some z, by go_num, by omega, (fun _ => ⟨z, rfl, HZ1.out, fun hh => HZ2.out (hh m x (by omega) HX.out)⟩), H⟩
          case measure => simp [intOf]; omega
        · skip
          go_wp2_with (first
              | ((with_reducible refine isLoad ?_); refine ldA H ?_)
              | ((with_reducible refine isStore ?_); refine stA H ?_; clear H; intro _ H)
              | ((with_reducible refine isAlloc ?_); refine alA H ?_; clear H; intro _ _ H))
          refine (RCmp_any (some z) (some z0) c _ Sz1 Sz0 Ec H.out.tb).mono ?_
          rintro _ _ ⟨rfl, hb⟩
          replace H := Lib.hid (H.out.go hb)
          clear hb
          go_wp2_with (first
              | go_skip)
          replace H := Lib.hid H.out.drop
          go_roundw
          case rel => exact ⟨m + 1, some z0, by go_num, by omega, (fun _ => ⟨z0, rfl, HS0.out, fun hh => HP0.out fun j y hj hy => hh j y (by omega) hy⟩), H⟩
          case measure => simp [intOf]; omega
    · have hmn : m = n := by omega
      subst hmn
      obtain ⟨z0, hr0, hz0, hp0⟩ := HF.out npos
      have HP0 := Lib.hid hp0
      have HS0 := Lib.hid hz0
      clear hp0 hz0
      subst hr0
      go_wp2_with (first
          | ((with_reducible refine isLoad ?_); refine ldA H ?_)
          | ((with_reducible refine isStore ?_); refine stA H ?_; clear H; intro _ H))
      exact bodyPost_ret (results_Hv H Tryz.results19 (by (first | exact rRat | exact rSpan | exact rPose | exact rFrame | exact rVec | exact rTurn | exact rBox)) rfl (by (repeat (first | exact List.Mem.head _ | refine List.Mem.tail _ ?_ | assumption))) (by rfl) (by rfl)) rfl ⟨⟨z0, rfl, HS0.out, fun hh => HP0.out fun j x _ hx => hh x (List.mem_of_getElem? hx)⟩, H.out.bel⟩
end Go.Proofs.YtmfejdikfpckdaaGreatDoor

namespace Go.Proofs.YtmfejdikfpckdaaGreatDoor
open Go.RowKit
set_option linter.unusedVariables false
set_option maxRecDepth 100000

theorem zIntF : (Tryz.prog.info? 3).bind (·.zero) = some (.int .i64 0) := by kernel_rfl
theorem iIntF : InfoT Tryz.prog 3 1 8 := InfoT.of (z := .int .i64 0) zIntF (by kernel_rfl) rfl
theorem uIntsF : Tryz.prog.underlying 22 = some (.slice 3) := Tryz.underlying22
def intsN (l : List Nat) : List Value := l.map fun j : Nat => Value.int .i64 (j : Int)
theorem intsN_snoc (l : List Nat) (j : Nat) : intsN (l ++ [j]) = intsN l ++ [.int .i64 (j : Int)] := by unfold intsN; rw [List.map_append]; rfl
/-- Whether a part is clear in a slot that is told by its number. -/
noncomputable def clrJ (p : PrtE) (ss : List SltE) (ws : List WalE) (j : Nat) : Bool := match ss[j]? with
  | some s => clrB p s ws
  | none => false
theorem clrJ_at {p : PrtE} {ss : List SltE} {ws : List WalE} {j : Nat} {s : SltE} (h : ss[j]? = some s) : clrJ p ss ws j = clrB p s ws := by unfold clrJ; rw [h]
noncomputable def slotN (p : PrtE) (ss : List SltE) (ws : List WalE) (m : Nat) : List Nat := (List.range m).filter (clrJ p ss ws)
theorem slotN_in {p : PrtE} {ss : List SltE} {ws : List WalE} {m : Nat} (h : clrJ p ss ws m = true) : slotN p ss ws (m + 1) = slotN p ss ws m ++ [m] := by
  unfold slotN; rw [List.range_succ, List.filter_append, List.filter_cons_of_pos h]; rfl
theorem slotN_out {p : PrtE} {ss : List SltE} {ws : List WalE} {m : Nat} (h : clrJ p ss ws m = false) : slotN p ss ws (m + 1) = slotN p ss ws m := by
  unfold slotN; rw [List.range_succ, List.filter_append, List.filter_cons_of_neg (by rw [h]; decide)]; simp
theorem slotN_len (p : PrtE) (ss : List SltE) (ws : List WalE) (m : Nat) : (slotN p ss ws m).length ≤ m := by
  have h := List.length_filter_le (clrJ p ss ws) (List.range m)
  rw [List.length_range] at h
  exact h
set_option maxHeartbeats 8000000 in
theorem fitSlots_any (v : Value) (ps : List PrtE) (ss : List SltE) (ws : List WalE) (p : PrtE) (i : Nat) (w : World) (W : Hid (WkF w v ps ss ws)) (hp : Hid (ps[i]? = some p)) (hP : POK p) (hS : Hid (∀ s ∈ ss, SOK s)) (hw : Hid (∀ x ∈ ws, WOK x)) (hps : ps.length ≤ 1000) (hss : ss.length ≤ 1000) (hws : ws.length ≤ 1000) (hT : Tb w) :
    Calls Tryz.prog 16 #[v, .int .i64 i] w fun e w' => ∃ (vv : Value) (cur : List Value), e = .returned (.tuple #[vv, .int .i64 0]) ∧ RowV 1 vv (slotN p ss ws ss.length).length (intsN (slotN p ss ws ss.length)) cur ∧ Hp w w' (rowE vv 3 cur) := by
  have H := Lib.hid (Hp.start hT)
  clear hT
  have W0 := W
  obtain ⟨⟨a1, a2, a3, a4, a5, n1, n5, c1, c2, c3, c4, c5, wb, w1, w2, rfl, RW, RP, RS⟩, HPL, HWL⟩ := W.out
  clear W RW RP RS HPL HWL
  have ip : i < ps.length := (List.getElem?_eq_some_iff.1 hp.out).1
  obtain ⟨n, hn⟩ : ∃ n, ss.length = n := ⟨_, rfl⟩
  obtain ⟨np, hnp⟩ : ∃ n, ps.length = n := ⟨_, rfl⟩
  rw [hn, hnp] at W0
  rw [hn, hnp]
  have hsn : n ≤ 1000 := by omega
  have i0 : ¬ ((i : Int) < 0) := by omega
  have ip1 : ¬ ((np : Int) ≤ (i : Int)) := by omega
  have HN := Lib.hid hn
  clear hn hnp ip
  go_enter Tryz.func16, Tryz.ntmps16
  go_wp2_with (first
      | ((with_reducible refine isLoad ?_); refine ld1A (hT := kSlots) H ?_)
      | ((with_reducible refine isLoad ?_); refine ld1A (hT := kParts) H ?_)
      | ((with_reducible refine isBox ?_); refine bxA H ?_; clear H; intro _ _ H))
  rename_i g2 W2 K8 hK8
  go_loopw [22, 6] (fun i_ o_ wr => ∃ (m : Nat) (v1 : Value) (cur1 : List Value), i_ = .int .i64 m ∧ o_ = v1 ∧ m ≤ n ∧ Hid (RowV 1 v1 (slotN p ss ws m).length (intsN (slotN p ss ws m)) cur1) ∧ Hid (Hp w wr ((g2, 31, [.slice a1 n1 c1, .slice a2 ws.length c2, .slice a3 np c3, .slice a4 n c4, .slice a5 n5 c5, .bool wb, .string w1, .string w2]) :: (rowE v1 3 cur1 ++ [])))) (fun i_ _ _ => n - (intOf i_).toNat)
  case atStart => exact ⟨0, _, [], rfl, rfl, by omega, Lib.hid (by simpa [slotN, intsN] using RowV.nil 1), H⟩
  case round =>
    clear H
    obtain ⟨m, v1, cur1, rfl, ho_, hm, R, H⟩ := hrel
    subst ho_
    obtain ⟨B2, k2, hv2, hk2⟩ := R.out.shape
    subst hv2
    obtain ⟨q, hq⟩ : ∃ q, (slotN p ss ws m).length = q := ⟨_, rfl⟩
    have hqm : q ≤ m := by rw [← hq]; exact slotN_len p ss ws m
    rw [hq] at R H
    rw [hq]
    have HQ := Lib.hid hq
    clear hq
    by_cases hlt : m < n
    · obtain ⟨s, HS⟩ : ∃ s, Hid (ss[m]? = some s) := ⟨_, Lib.hid (List.getElem?_eq_getElem (by rw [HN.out]; exact hlt))⟩
      have SOKs : SOK s := hS.out s (List.mem_of_getElem? HS.out)
      go_wp2_with (first
          | ((with_reducible refine isLoad ?_); refine ldA (hT := rWks) H ?_))
      refine (fitClear_any _ ps ss ws p s i m _ (Lib.hid (W0.out.below H.out.bel)) hp HS hP SOKs hw hps hss hws H.out.tb).mono ?_
      rintro _ _ ⟨rfl, hb⟩
      replace H := Lib.hid (H.out.go hb)
      clear hb
      obtain ⟨r, hr⟩ : ∃ r, clrB p s ws = r := ⟨_, rfl⟩
      have HJ : Hid (clrJ p ss ws m = r) := by rw [← hr]; exact clrJ_at HS.out
      rw [hr]
      clear hr
      cases r with
      | true =>
        go_wp2_with (first
            | ((with_reducible refine isSlc ?_); refine bsA 3 ([.int .i64 m]) 1 H (fun b1 W1 H1 => ?_); clear H; have H := H1; clear H1)
            | ((with_reducible refine isApp ?_); refine wpList_appH [(b1, 3, [.int .i64 m]), (g2, 31, [.slice a1 n1 c1, .slice a2 ws.length c2, .slice a3 np c3, .slice a4 n c4, .slice a5 n5 c5, .bool wb, .string w1, .string w2])] [] H R (by rfl) iIntF (by decide) uIntsF (by rfl) (by rfl) (by rfl) (by rfl) (.head _) (by rfl) (by rfl) (by decide) (by unfold maxLen; omega) (by omega) (fun v4 cur4 W4 R4 H4 => ?_); clear H R; have R := R4; have H := Lib.hid (H4.out.drop); clear R4 H4; simp only [Act.put, List.setIfInBounds_toArray, List.set_cons_succ, List.set_cons_zero]))
        have R5 : Hid (RowV 1 v4 (slotN p ss ws (m + 1)).length (intsN (slotN p ss ws (m + 1))) cur4) := by
          rw [slotN_in HJ.out, intsN_snoc, List.length_append, HQ.out]
          exact R
        go_roundw
        case rel => exact ⟨m + 1, v4, cur4, by go_num, rfl, by omega, R5, H⟩
        case measure => simp [intOf]; omega
      | false =>
        go_wp2_with (first
            | go_skip)
        have R5 : Hid (RowV 1 (.slice B2 q k2) (slotN p ss ws (m + 1)).length (intsN (slotN p ss ws (m + 1))) cur1) := by
          rw [slotN_out HJ.out, HQ.out]
          exact R
        go_roundw
        case rel => exact ⟨m + 1, _, cur1, by go_num, rfl, by omega, R5, H⟩
        case measure => simp [intOf]; omega
    · have hmn : m = n := by omega
      subst hmn
      have RQ : Hid (RowV 1 (.slice B2 q k2) (slotN p ss ws m).length (intsN (slotN p ss ws m)) cur1) := by rw [HQ.out]; exact R
      go_wp2_with (first
          | go_skip)
      go_ret2
      exact ⟨_, cur1, rfl, RQ.out, by simpa using H.out.drop⟩
end Go.Proofs.YtmfejdikfpckdaaGreatDoor

namespace Go.Proofs.YtmfejdikfpckdaaGreatDoor
open Go.RowKit
set_option linter.unusedVariables false
set_option maxRecDepth 100000

/-- What gantkeep4.works answers: a works in memory, and whether it has a part and a slot. -/
def WrkR (w w' : World) (e : Ending) : Prop := ∃ (v : Value) (ps : List PrtE) (ss : List SltE) (ws : List WalE), e = .returned (.tuple #[v, .bool (decide (0 < ps.length ∧ 0 < ss.length))]) ∧ WkF w' v ps ss ws ∧ (∀ p ∈ ps, POK p) ∧ (∀ s ∈ ss, SOK s) ∧ (∀ x ∈ ws, WOK x) ∧ ps.length ≤ 2 ∧ ss.length ≤ 3 ∧ ws.length ≤ 2
theorem WrkR.mk {w w' : World} {e : Ending} {v : Value} {ps : List PrtE} {ss : List SltE} {ws : List WalE} (he : e = .returned (.tuple #[v, .bool (decide (0 < ps.length ∧ 0 < ss.length))])) (h1 : WkF w' v ps ss ws) (h2 : ∀ p ∈ ps, POK p) (h3 : ∀ s ∈ ss, SOK s) (h4 : ∀ x ∈ ws, WOK x) (h5 : ps.length ≤ 2) (h6 : ss.length ≤ 3) (h7 : ws.length ≤ 2) : WrkR w w' e := ⟨v, ps, ss, ws, he, h1, h2, h3, h4, h5, h6, h7⟩
set_option maxHeartbeats 8000000 in
theorem wrk_any (S : Sd) (w : World) (hS : Hid (S.ok w)) (hT : Tb w) :
    Calls Tryz.prog 6 #[.slice S.A S.xs.length S.c] w fun e w' => WrkR w w' e ∧ Below w.heap.size w w' := by
  have H := Lib.hid (Hp.start hT)
  clear hT
  go_enter Tryz.func6, Tryz.ntmps6
  go_wp2_with (first
      | go_skip
      | ((with_reducible refine isAlloc ?_); refine alA (hz := zWks) H ?_; clear H; intro _ _ H)
      | ((with_reducible refine isStore ?_); refine stA (hT := rWks) H ?_; clear H; intro _ H)
      | ((with_reducible refine isLoad ?_); refine ldA H ?_)
      | ((with_reducible refine isLoad ?_); refine ld1A H ?_)
      | ((with_reducible refine isStore ?_); refine stA H ?_; clear H; intro _ H)
      | ((with_reducible refine isStore ?_); refine st1A H ?_; clear H; intro _ H)
      | ((with_reducible refine isBox ?_); refine bxA H ?_; clear H; intro _ _ H)
      | ((with_reducible refine isAlloc ?_); refine alA H ?_; clear H; intro _ _ H))
  rename_i g2 W2 K7 hK7
  refine (works_any S _ (Lib.hid (hS.out.below H.out.bel)) H.out.tb).mono ?_
  rintro _ w5 ⟨v, ps, ss, ws, rfl, ⟨E, hE, hWK⟩, hp, hs, hw, lp, ls, lw, hb⟩
  have WK := hWK _ (fun x hx => (hE.blk x hx).2)
  have WK0 := Lib.hid hWK
  replace H := Lib.hid (H.out.join hE)
  clear hb hWK hE
  obtain ⟨⟨a1, a2, a3, a4, a5, n1, n5, c1, c2, c3, c4, c5, wb, w1, w2, rfl, RW, RP, RS⟩, HPL, HWL⟩ := WK
  clear RW RP RS HPL HWL
  have HPK := Lib.hid hp
  have HSK := Lib.hid hs
  have HWK := Lib.hid hw
  clear hp hs hw
  go_wp2_with (first
      | go_skip
      | ((with_reducible refine isAlloc ?_); refine alA (hz := zWks) H ?_; clear H; intro _ _ H)
      | ((with_reducible refine isStore ?_); refine stA (hT := rWks) H ?_; clear H; intro _ H)
      | ((with_reducible refine isLoad ?_); refine ldA H ?_)
      | ((with_reducible refine isLoad ?_); refine ld1A H ?_)
      | ((with_reducible refine isStore ?_); refine stA H ?_; clear H; intro _ H)
      | ((with_reducible refine isStore ?_); refine st1A H ?_; clear H; intro _ H)
      | ((with_reducible refine isBox ?_); refine bxA H ?_; clear H; intro _ _ H)
      | ((with_reducible refine isAlloc ?_); refine alA H ?_; clear H; intro _ _ H))
  rename_i g4 W4 W5 K8 hK8
  by_cases hnp : 0 < ps.length
  · have tp : (0 : Int) < (ps.length : Int) := by omega
    have td : decide ((0 : Int) < (ps.length : Int)) = true := decide_eq_true tp
    refine wp_region_Y 12 [.c (.agg #[.slice a1 n1 c1, .slice a2 ws.length c2, .slice a3 ps.length c3, .slice a4 ss.length c4, .slice a5 n5 c5, .bool wb, .string w1, .string w2]), .c (.pointer (some ⟨g4, 2, none⟩)), .c (.slice a3 ps.length c3), .c (.int .i64 ps.length), .c (.bool true), .c (.bool true), .c (.pointer (some ⟨g4, 3, none⟩)), .c (.slice a4 ss.length c4), .c (.int .i64 ss.length), .c (.bool (decide ((0 : Int) < (ss.length : Int)))), .c (.bool (decide ((0 : Int) < (ss.length : Int)))), .y] ([(g4, 31, [.slice a1 n1 c1, .slice a2 ws.length c2, .slice a3 ps.length c3, .slice a4 ss.length c4, .slice a5 n5 c5, .bool wb, .string w1, .string w2])]) H (by (repeat (first | exact List.Sublist.refl _ | exact List.nil_sublist _ | exact List.sublist_append_right _ _ | refine List.Sublist.cons_cons _ ?_ | refine List.Sublist.cons _ ?_))) (by kernel_rfl) (by kernel_rfl) (by kernel_rfl) ?_
    simp only [List.take_succ_cons, List.take_zero, List.drop_succ_cons, List.drop_zero]
    refine wpY_load (by rfl) (by rfl) (by (first | exact wanted_none rfl | exact wanted_some rfl rfl)) rWks (by rfl) (by (repeat (first | exact List.Mem.head _ | refine List.Mem.tail _ ?_ | assumption))) (by first | rfl | ((simp only [List.drop, List.take]); rfl)) (by rfl) ?_
    (simp only [Act.put, List.setIfInBounds_toArray, List.set_cons_succ, List.set_cons_zero])
    refine wpY_c (by rfl) (by (first | exact wanted_none rfl | exact wanted_some rfl rfl)) (by intro W _; first | (go_simp; rfl) | (go_simp; done) | (trace_state; fail)) ?_
    (simp only [Act.put, List.setIfInBounds_toArray, List.set_cons_succ, List.set_cons_zero])
    refine wpY_load1 (by rfl) (by rfl) (by (first | exact wanted_none rfl | exact wanted_some rfl rfl)) kParts (by rfl) (by (repeat (first | exact List.Mem.head _ | refine List.Mem.tail _ ?_ | assumption))) (by rfl) ?_
    (simp only [Act.put, List.setIfInBounds_toArray, List.set_cons_succ, List.set_cons_zero])
    refine wpY_c (by rfl) (by (first | exact wanted_none rfl | exact wanted_some rfl rfl)) (by intro W _; first | (go_simp; rfl) | (go_simp; done) | (trace_state; fail)) ?_
    (simp only [Act.put, List.setIfInBounds_toArray, List.set_cons_succ, List.set_cons_zero])
    refine wpY_c (by rfl) (by (first | exact wanted_none rfl | exact wanted_some rfl rfl)) (by intro W _; first | (go_simp; rfl) | (go_simp; done) | (trace_state; fail)) ?_
    (simp only [Act.put, List.setIfInBounds_toArray, List.set_cons_succ, List.set_cons_zero])
    refine wpY_c (by rfl) (by (first | exact wanted_none rfl | exact wanted_some rfl rfl)) (by intro W _; first | (go_simp; rfl) | (go_simp; done) | (trace_state; fail)) ?_
    (simp only [Act.put, List.setIfInBounds_toArray, List.set_cons_succ, List.set_cons_zero])
    refine wpY_c (by rfl) (by (first | exact wanted_none rfl | exact wanted_some rfl rfl)) (by intro W _; first | (go_simp; rfl) | (go_simp; done) | (trace_state; fail)) ?_
    (simp only [Act.put, List.setIfInBounds_toArray, List.set_cons_succ, List.set_cons_zero])
    refine wpY_load1 (by rfl) (by rfl) (by (first | exact wanted_none rfl | exact wanted_some rfl rfl)) kSlots (by rfl) (by (repeat (first | exact List.Mem.head _ | refine List.Mem.tail _ ?_ | assumption))) (by rfl) ?_
    (simp only [Act.put, List.setIfInBounds_toArray, List.set_cons_succ, List.set_cons_zero])
    refine wpY_c (by rfl) (by (first | exact wanted_none rfl | exact wanted_some rfl rfl)) (by intro W _; first | (go_simp; rfl) | (go_simp; done) | (trace_state; fail)) ?_
    (simp only [Act.put, List.setIfInBounds_toArray, List.set_cons_succ, List.set_cons_zero])
    refine wpY_c (by rfl) (by (first | exact wanted_none rfl | exact wanted_some rfl rfl)) (by intro W _; first | (go_simp; rfl) | (go_simp; done) | (trace_state; fail)) ?_
    (simp only [Act.put, List.setIfInBounds_toArray, List.set_cons_succ, List.set_cons_zero])
    refine wpY_c (by rfl) (by (first | exact wanted_none rfl | exact wanted_some rfl rfl)) (by intro W _; first | (go_simp; rfl) | (go_simp; done) | (trace_state; fail)) ?_
    (simp only [Act.put, List.setIfInBounds_toArray, List.set_cons_succ, List.set_cons_zero])
    refine wpY_st (by rfl) (by rfl) (by rfl) (by rfl) rWks (by rfl) (by rfl) (.tail (Upd.app E .head)) (by rfl) (by (simp only [List.drop, List.take, List.nil_append, List.cons_append]); rfl) (by exact Nat.le_of_ble_eq_true rfl) (by rfl) (by (repeat (first | exact List.Sublist.refl _ | exact List.nil_sublist _ | exact List.sublist_append_right _ _ | refine List.Sublist.cons_cons _ ?_ | refine List.Sublist.cons _ ?_))) (by rfl) ?_
    refine wpY_nil ?_
    clear H
    intro _ H
    go_wp2_with (first
        | go_skip
        | ((with_reducible refine isLoad ?_); refine ldA H ?_)
        | ((with_reducible refine isLoad ?_); refine ld1A H ?_)
        | ((with_reducible refine isStore ?_); refine stA H ?_; clear H; intro _ H)
        | ((with_reducible refine isStore ?_); refine st1A H ?_; clear H; intro _ H)
        | ((with_reducible refine isBox ?_); refine bxA H ?_; clear H; intro _ _ H)
        | ((with_reducible refine isAlloc ?_); refine alA H ?_; clear H; intro _ _ H))
    refine bodyPost_ret (results_Hv H Tryz.results6 rWks rfl (.tail _ (List.mem_append_right _ (.head _))) (by rfl) (by rfl)) rfl ⟨?_, H.out.bel⟩
    exact WrkR.mk (by (have e : decide ((0 : Int) < (ss.length : Int)) = decide (0 < ps.length ∧ 0 < ss.length) := decide_eq_decide.2 ⟨fun h => ⟨hnp, by omega⟩, fun h => by omega⟩); rw [← e]; rfl) (WK0.out _ (fun x hx => (H.out.blk x (.tail _ (List.mem_append_left _ hx))).2)) (fun p hp => pok_of (HPK.out p hp)) (fun s hs => sok_of (HSK.out s hs)) HWK.out lp ls lw
  · have tp : ¬ ((0 : Int) < (ps.length : Int)) := by omega
    have td : decide ((0 : Int) < (ps.length : Int)) = false := decide_eq_false tp
    refine wp_region_Y 12 [.c (.agg #[.slice a1 n1 c1, .slice a2 ws.length c2, .slice a3 ps.length c3, .slice a4 ss.length c4, .slice a5 n5 c5, .bool wb, .string w1, .string w2]), .c (.pointer (some ⟨g4, 2, none⟩)), .c (.slice a3 ps.length c3), .c (.int .i64 ps.length), .c (.bool false), .c (.bool false), .c undef, .c undef, .c undef, .c undef, .c (.bool false), .y] ([(g4, 31, [.slice a1 n1 c1, .slice a2 ws.length c2, .slice a3 ps.length c3, .slice a4 ss.length c4, .slice a5 n5 c5, .bool wb, .string w1, .string w2])]) H (by (repeat (first | exact List.Sublist.refl _ | exact List.nil_sublist _ | exact List.sublist_append_right _ _ | refine List.Sublist.cons_cons _ ?_ | refine List.Sublist.cons _ ?_))) (by kernel_rfl) (by kernel_rfl) (by kernel_rfl) ?_
    simp only [List.take_succ_cons, List.take_zero, List.drop_succ_cons, List.drop_zero]
    refine wpY_load (by rfl) (by rfl) (by (first | exact wanted_none rfl | exact wanted_some rfl rfl)) rWks (by rfl) (by (repeat (first | exact List.Mem.head _ | refine List.Mem.tail _ ?_ | assumption))) (by first | rfl | ((simp only [List.drop, List.take]); rfl)) (by rfl) ?_
    (simp only [Act.put, List.setIfInBounds_toArray, List.set_cons_succ, List.set_cons_zero])
    refine wpY_c (by rfl) (by (first | exact wanted_none rfl | exact wanted_some rfl rfl)) (by intro W _; first | (go_simp; rfl) | (go_simp; done) | (trace_state; fail)) ?_
    (simp only [Act.put, List.setIfInBounds_toArray, List.set_cons_succ, List.set_cons_zero])
    refine wpY_load1 (by rfl) (by rfl) (by (first | exact wanted_none rfl | exact wanted_some rfl rfl)) kParts (by rfl) (by (repeat (first | exact List.Mem.head _ | refine List.Mem.tail _ ?_ | assumption))) (by rfl) ?_
    (simp only [Act.put, List.setIfInBounds_toArray, List.set_cons_succ, List.set_cons_zero])
    refine wpY_c (by rfl) (by (first | exact wanted_none rfl | exact wanted_some rfl rfl)) (by intro W _; first | (go_simp; rfl) | (go_simp; done) | (trace_state; fail)) ?_
    (simp only [Act.put, List.setIfInBounds_toArray, List.set_cons_succ, List.set_cons_zero])
    refine wpY_c (by rfl) (by (first | exact wanted_none rfl | exact wanted_some rfl rfl)) (by intro W _; first | (go_simp; rfl) | (go_simp; done) | (trace_state; fail)) ?_
    (simp only [Act.put, List.setIfInBounds_toArray, List.set_cons_succ, List.set_cons_zero])
    refine wpY_c (by rfl) (by (first | exact wanted_none rfl | exact wanted_some rfl rfl)) (by intro W _; first | (go_simp; rfl) | (go_simp; done) | (trace_state; fail)) ?_
    (simp only [Act.put, List.setIfInBounds_toArray, List.set_cons_succ, List.set_cons_zero])
    refine wpY_skip (by rfl) rfl rfl ?_
    (simp only [Act.put, List.setIfInBounds_toArray, List.set_cons_succ, List.set_cons_zero])
    refine wpY_skip (by rfl) rfl rfl ?_
    (simp only [Act.put, List.setIfInBounds_toArray, List.set_cons_succ, List.set_cons_zero])
    refine wpY_skip (by rfl) rfl rfl ?_
    (simp only [Act.put, List.setIfInBounds_toArray, List.set_cons_succ, List.set_cons_zero])
    refine wpY_skip (by rfl) rfl rfl ?_
    (simp only [Act.put, List.setIfInBounds_toArray, List.set_cons_succ, List.set_cons_zero])
    refine wpY_c (by rfl) (by (first | exact wanted_none rfl | exact wanted_some rfl rfl)) (by intro W _; first | (go_simp; rfl) | (go_simp; done) | (trace_state; fail)) ?_
    (simp only [Act.put, List.setIfInBounds_toArray, List.set_cons_succ, List.set_cons_zero])
    refine wpY_st (by rfl) (by rfl) (by rfl) (by rfl) rWks (by rfl) (by rfl) (.tail (Upd.app E .head)) (by rfl) (by (simp only [List.drop, List.take, List.nil_append, List.cons_append]); rfl) (by exact Nat.le_of_ble_eq_true rfl) (by rfl) (by (repeat (first | exact List.Sublist.refl _ | exact List.nil_sublist _ | exact List.sublist_append_right _ _ | refine List.Sublist.cons_cons _ ?_ | refine List.Sublist.cons _ ?_))) (by rfl) ?_
    refine wpY_nil ?_
    clear H
    intro _ H
    go_wp2_with (first
        | go_skip
        | ((with_reducible refine isLoad ?_); refine ldA H ?_)
        | ((with_reducible refine isLoad ?_); refine ld1A H ?_)
        | ((with_reducible refine isStore ?_); refine stA H ?_; clear H; intro _ H)
        | ((with_reducible refine isStore ?_); refine st1A H ?_; clear H; intro _ H)
        | ((with_reducible refine isBox ?_); refine bxA H ?_; clear H; intro _ _ H)
        | ((with_reducible refine isAlloc ?_); refine alA H ?_; clear H; intro _ _ H))
    refine bodyPost_ret (results_Hv H Tryz.results6 rWks rfl (.tail _ (List.mem_append_right _ (.head _))) (by rfl) (by rfl)) rfl ⟨?_, H.out.bel⟩
    exact WrkR.mk (by (have e : decide (0 < ps.length ∧ 0 < ss.length) = false := decide_eq_false (fun h => hnp h.1)); rw [e]; rfl) (WK0.out _ (fun x hx => (H.out.blk x (.tail _ (List.mem_append_left _ hx))).2)) (fun p hp => pok_of (HPK.out p hp)) (fun s hs => sok_of (HSK.out s hs)) HWK.out lp ls lw
end Go.Proofs.YtmfejdikfpckdaaGreatDoor

namespace Go.Proofs.YtmfejdikfpckdaaGreatDoor
open Go.RowKit
set_option linter.unusedVariables false
set_option maxRecDepth 100000

set_option maxHeartbeats 8000000 in
theorem grasp_any {k i1 j1 k1 m1 : Nat} (u v1 z : Rat) (v : Value) (ps : List PrtE) (ss : List SltE) (ws : List WalE) (p : PrtE) (s : SltE) (i j : Nat) (w : World) (hk : k ≤ 500) (W : Hid (WkF w v ps ss ws)) (hp : Hid (ps[i]? = some p)) (hs : Hid (ss[j]? = some s)) (Z : Hid (∀ q ∈ p.l, Sz k q.1 ∧ Sz k q.2)) (C : Hid (FitT.Cvx p.l)) (hl : (p.l.length : Int) ≤ 8) (hk2 : i1 + 2 * k1 ≤ 7000 ∧ j1 ≤ 100 ∧ m1 ≤ 3000) (Zx : Hid (SzO i1 s.x)) (Zy : Hid (SzO i1 s.y)) (Zr : Hid (SzO j1 s.t)) (Za : Hid (SzO k1 p.x)) (Zb : Hid (SzO k1 p.y)) (Zt : Hid (SzO m1 p.t)) (Eu : Hid (valO s.x + rotX (valO s.t) (valO p.x) (valO p.y) = u)) (Ev : Hid (valO s.y + rotY (valO s.t) (valO p.x) (valO p.y) = v1)) (Hd : Hid (((1 : Int) : Rat) - valO s.t * valO p.t ≠ 0)) (Ez : Hid ((valO s.t + valO p.t) / (((1 : Int) : Rat) - valO s.t * valO p.t) = z)) (hps : ps.length ≤ 1000) (hss : ss.length ≤ 1000) (hT : Tb w) :
    Calls Tryz.prog 25 #[v, .int .i64 i, .int .i64 j] w fun e w' => e = .returned (.tuple #[.agg #[.bool (sgO (some u)), .string (nuO (some u)), .string (deO (some u)), .bool (sgO (some v1)), .string (nuO (some v1)), .string (deO (some v1)), .bool false, .bool (sgO (some z)), .string (nuO (some z)), .string (deO (some z))], .int .i64 0]) ∧ Below w.heap.size w w' := by
  have H := Lib.hid (Hp.start hT)
  clear hT
  have W0 := W
  obtain ⟨⟨a1, a2, a3, a4, a5, n1, n5, c1, c2, c3, c4, c5, wb, w1, w2, rfl, RW, RP, RS⟩, HPL, HWL⟩ := W.out
  clear W RW RP RS HPL HWL
  go_enter Tryz.func25, Tryz.ntmps25
  go_wp2_with (first
      | go_skip
      | ((with_reducible refine isLoad ?_); refine ldA (hT := rWks) H ?_)
      | ((with_reducible refine isLoad ?_); refine ldA (hT := rFrame) H ?_)
      | ((with_reducible refine isAlloc ?_); refine alA (hz := zPart) H ?_; clear H; intro _ _ H)
      | ((with_reducible refine isAlloc ?_); refine alA (hz := zSlot) H ?_; clear H; intro _ _ H)
      | ((with_reducible refine isAlloc ?_); refine alA (hz := zFrame) H ?_; clear H; intro _ _ H)
      | ((with_reducible refine isStore ?_); refine stA (hT := rPart) H ?_; clear H; intro _ H)
      | ((with_reducible refine isStore ?_); refine stA (hT := rSlot) H ?_; clear H; intro _ H)
      | ((with_reducible refine isStore ?_); refine stA (hT := rFrame) H ?_; clear H; intro _ H)
      | ((with_reducible refine isLoad ?_); refine ldA H ?_)
      | ((with_reducible refine isLoad ?_); refine ld1A H ?_)
      | ((with_reducible refine isStore ?_); refine stA H ?_; clear H; intro _ H)
      | ((with_reducible refine isStore ?_); refine st1A H ?_; clear H; intro _ H)
      | ((with_reducible refine isBox ?_); refine bxA H ?_; clear H; intro _ _ H)
      | ((with_reducible refine isAlloc ?_); refine alA H ?_; clear H; intro _ _ H))
  refine (things_any (k := k) _ ps ss ws p s i j _ hk (Lib.hid (W0.out.below H.out.bel)) hp hs Z C hl hps hss H.out.tb).mono ?_
  rintro _ _ ⟨rfl, hb⟩
  replace H := Lib.hid (H.out.go hb)
  clear hb
  go_wp2_with (first
      | go_skip
      | ((with_reducible refine isLoad ?_); refine ldA (hT := rWks) H ?_)
      | ((with_reducible refine isLoad ?_); refine ldA (hT := rFrame) H ?_)
      | ((with_reducible refine isAlloc ?_); refine alA (hz := zPart) H ?_; clear H; intro _ _ H)
      | ((with_reducible refine isAlloc ?_); refine alA (hz := zSlot) H ?_; clear H; intro _ _ H)
      | ((with_reducible refine isAlloc ?_); refine alA (hz := zFrame) H ?_; clear H; intro _ _ H)
      | ((with_reducible refine isStore ?_); refine stA (hT := rPart) H ?_; clear H; intro _ H)
      | ((with_reducible refine isStore ?_); refine stA (hT := rSlot) H ?_; clear H; intro _ H)
      | ((with_reducible refine isStore ?_); refine stA (hT := rFrame) H ?_; clear H; intro _ H)
      | ((with_reducible refine isLoad ?_); refine ldA H ?_)
      | ((with_reducible refine isLoad ?_); refine ld1A H ?_)
      | ((with_reducible refine isStore ?_); refine stA H ?_; clear H; intro _ H)
      | ((with_reducible refine isStore ?_); refine st1A H ?_; clear H; intro _ H)
      | ((with_reducible refine isBox ?_); refine bxA H ?_; clear H; intro _ _ H)
      | ((with_reducible refine isAlloc ?_); refine alA H ?_; clear H; intro _ _ H))
  refine (frameThen_any s.x s.y s.t p.x p.y p.t u v1 z _ hk2 Zx Zy Zr Za Zb Zt Eu Ev Hd Ez H.out.tb).mono ?_
  rintro _ _ ⟨rfl, hb⟩
  replace H := Lib.hid (H.out.go hb)
  clear hb
  go_wp2_with (first
      | go_skip
      | ((with_reducible refine isLoad ?_); refine ldA (hT := rWks) H ?_)
      | ((with_reducible refine isLoad ?_); refine ldA (hT := rFrame) H ?_)
      | ((with_reducible refine isAlloc ?_); refine alA (hz := zPart) H ?_; clear H; intro _ _ H)
      | ((with_reducible refine isAlloc ?_); refine alA (hz := zSlot) H ?_; clear H; intro _ _ H)
      | ((with_reducible refine isAlloc ?_); refine alA (hz := zFrame) H ?_; clear H; intro _ _ H)
      | ((with_reducible refine isStore ?_); refine stA (hT := rPart) H ?_; clear H; intro _ H)
      | ((with_reducible refine isStore ?_); refine stA (hT := rSlot) H ?_; clear H; intro _ H)
      | ((with_reducible refine isStore ?_); refine stA (hT := rFrame) H ?_; clear H; intro _ H)
      | ((with_reducible refine isLoad ?_); refine ldA H ?_)
      | ((with_reducible refine isLoad ?_); refine ld1A H ?_)
      | ((with_reducible refine isStore ?_); refine stA H ?_; clear H; intro _ H)
      | ((with_reducible refine isStore ?_); refine st1A H ?_; clear H; intro _ H)
      | ((with_reducible refine isBox ?_); refine bxA H ?_; clear H; intro _ _ H)
      | ((with_reducible refine isAlloc ?_); refine alA H ?_; clear H; intro _ _ H))
  exact bodyPost_ret (results_Hv H Tryz.results25 rFrame rfl (by (repeat (first | exact List.Mem.head _ | refine List.Mem.tail _ ?_ | assumption))) (by rfl) (by rfl)) rfl ⟨rfl, H.out.bel⟩
end Go.Proofs.YtmfejdikfpckdaaGreatDoor

namespace Go.Proofs.YtmfejdikfpckdaaGreatDoor
open Go.RowKit
set_option linter.unusedVariables false
set_option maxRecDepth 100000

def S0 : Sd := ⟨none, 0, []⟩
theorem S0_ok (w : World) : S0.ok w := ⟨Nat.le_refl _, Nat.zero_le _, fun h => absurd h (by decide), fun x hx => by cases hx⟩
theorem szn (k : Nat) (hk : 1 ≤ k) : SzO k none := ⟨Nat.pow_pos (by decide), Nat.one_lt_pow (by omega) (by decide)⟩
set_option maxHeartbeats 8000000 in
theorem fitted_any (w : World) (hT : Tb w) :
    Calls Tryz.prog 7 #[] w fun e w' => e = .returned (.bool true) ∧ Below w.heap.size w w' := by
  have H := Lib.hid (Hp.start hT)
  clear hT
  obtain ⟨q1, E1⟩ : ∃ z : Rat, Hid (((1 : Int) : Rat) = z) := ⟨_, rfl⟩
  obtain ⟨q3, E3⟩ : ∃ z : Rat, Hid (((3 : Int) : Rat) = z) := ⟨_, rfl⟩
  obtain ⟨q4, E4⟩ : ∃ z : Rat, Hid (((4 : Int) : Rat) = z) := ⟨_, rfl⟩
  go_enter Tryz.func7, Tryz.ntmps7
  go_wp2_with (first
      | go_skip
      | ((with_reducible refine isSlcT (t := 25) (n := 1) ?_); refine bsA 50 ([.string ⟨#[]⟩, .slice (some ⟨bp, 0, none⟩) np np, .bool (sgO (some q1)), .string (nuO (some q1)), .string (deO (some q1)), .bool false, .string ⟨#[]⟩, .string ⟨#[]⟩, .bool false, .bool false, .string ⟨#[]⟩, .string ⟨#[]⟩]) 1 H (fun b9 Wb9 H1 => ?_); clear H; have H := H1; clear H1)
      | ((with_reducible refine isSlcT (t := 26) (n := 1) ?_); refine bsA 52 ([.string ⟨#[]⟩, .bool (sgO (some q3)), .string (nuO (some q3)), .string (deO (some q3)), .bool false, .string ⟨#[]⟩, .string ⟨#[]⟩, .bool false, .bool false, .string ⟨#[]⟩, .string ⟨#[]⟩, .bool false, .string ⟨#[]⟩, .string ⟨#[]⟩]) 1 H (fun b14 Wb14 H1 => ?_); clear H; have H := H1; clear H1)
      | ((with_reducible refine isLoad ?_); refine ldA (hT := rWks) H ?_)
      | ((with_reducible refine isLoad ?_); refine ldA (hT := rFrame) H ?_)
      | ((with_reducible refine isAlloc ?_); refine alA (hz := zWks) H ?_; clear H; intro _ _ H)
      | ((with_reducible refine isAlloc ?_); refine alA (hz := zFrame) H ?_; clear H; intro _ _ H)
      | ((with_reducible refine isStore ?_); refine stA (hT := rWks) H ?_; clear H; intro _ H)
      | ((with_reducible refine isStore ?_); refine stA (hT := rFrame) H ?_; clear H; intro _ H)
      | ((with_reducible refine isLoad ?_); refine ldA H ?_)
      | ((with_reducible refine isLoad ?_); refine ld1A H ?_)
      | ((with_reducible refine isStore ?_); refine stA H ?_; clear H; intro _ H)
      | ((with_reducible refine isStore ?_); refine st1A H ?_; clear H; intro _ H)
      | ((with_reducible refine isBox ?_); refine bxA H ?_; clear H; intro _ _ H)
      | ((with_reducible refine isAlloc ?_); refine alA H ?_; clear H; intro _ _ H))
  refine (Poly_any S0 _ (S0_ok _) H.out.tb).mono ?_
  rintro _ w1 ⟨bp, rfl, hge, hbk, hb⟩
  replace H := Lib.hid (H.out.fresh hb hge hbk)
  clear hge hbk hb
  obtain ⟨np, hnp⟩ : ∃ n, (polyL S0).length = n := ⟨_, rfl⟩
  rw [hnp]
  have HNP := Lib.hid hnp
  clear hnp
  go_wp2_with (first
      | go_skip
      | ((with_reducible refine isSlcT (t := 25) (n := 1) ?_); refine bsA 50 ([.string ⟨#[]⟩, .slice (some ⟨bp, 0, none⟩) np np, .bool (sgO (some q1)), .string (nuO (some q1)), .string (deO (some q1)), .bool false, .string ⟨#[]⟩, .string ⟨#[]⟩, .bool false, .bool false, .string ⟨#[]⟩, .string ⟨#[]⟩]) 1 H (fun b9 Wb9 H1 => ?_); clear H; have H := H1; clear H1)
      | ((with_reducible refine isSlcT (t := 26) (n := 1) ?_); refine bsA 52 ([.string ⟨#[]⟩, .bool (sgO (some q3)), .string (nuO (some q3)), .string (deO (some q3)), .bool false, .string ⟨#[]⟩, .string ⟨#[]⟩, .bool false, .bool false, .string ⟨#[]⟩, .string ⟨#[]⟩, .bool false, .string ⟨#[]⟩, .string ⟨#[]⟩]) 1 H (fun b14 Wb14 H1 => ?_); clear H; have H := H1; clear H1)
      | ((with_reducible refine isLoad ?_); refine ldA (hT := rWks) H ?_)
      | ((with_reducible refine isLoad ?_); refine ldA (hT := rFrame) H ?_)
      | ((with_reducible refine isAlloc ?_); refine alA (hz := zWks) H ?_; clear H; intro _ _ H)
      | ((with_reducible refine isAlloc ?_); refine alA (hz := zFrame) H ?_; clear H; intro _ _ H)
      | ((with_reducible refine isStore ?_); refine stA (hT := rWks) H ?_; clear H; intro _ H)
      | ((with_reducible refine isStore ?_); refine stA (hT := rFrame) H ?_; clear H; intro _ H)
      | ((with_reducible refine isLoad ?_); refine ldA H ?_)
      | ((with_reducible refine isLoad ?_); refine ld1A H ?_)
      | ((with_reducible refine isStore ?_); refine stA H ?_; clear H; intro _ H)
      | ((with_reducible refine isStore ?_); refine st1A H ?_; clear H; intro _ H)
      | ((with_reducible refine isBox ?_); refine bxA H ?_; clear H; intro _ _ H)
      | ((with_reducible refine isAlloc ?_); refine alA H ?_; clear H; intro _ _ H))
  refine (ROf_any 1 q1 _ (by decide) (by decide) E1 H.out.tb).mono ?_
  rintro _ _ ⟨rfl, hb⟩
  replace H := Lib.hid (H.out.go hb)
  clear hb
  go_wp2_with (first
      | go_skip
      | ((with_reducible refine isSlcT (t := 25) (n := 1) ?_); refine bsA 50 ([.string ⟨#[]⟩, .slice (some ⟨bp, 0, none⟩) np np, .bool (sgO (some q1)), .string (nuO (some q1)), .string (deO (some q1)), .bool false, .string ⟨#[]⟩, .string ⟨#[]⟩, .bool false, .bool false, .string ⟨#[]⟩, .string ⟨#[]⟩]) 1 H (fun b9 Wb9 H1 => ?_); clear H; have H := H1; clear H1)
      | ((with_reducible refine isSlcT (t := 26) (n := 1) ?_); refine bsA 52 ([.string ⟨#[]⟩, .bool (sgO (some q3)), .string (nuO (some q3)), .string (deO (some q3)), .bool false, .string ⟨#[]⟩, .string ⟨#[]⟩, .bool false, .bool false, .string ⟨#[]⟩, .string ⟨#[]⟩, .bool false, .string ⟨#[]⟩, .string ⟨#[]⟩]) 1 H (fun b14 Wb14 H1 => ?_); clear H; have H := H1; clear H1)
      | ((with_reducible refine isLoad ?_); refine ldA (hT := rWks) H ?_)
      | ((with_reducible refine isLoad ?_); refine ldA (hT := rFrame) H ?_)
      | ((with_reducible refine isAlloc ?_); refine alA (hz := zWks) H ?_; clear H; intro _ _ H)
      | ((with_reducible refine isAlloc ?_); refine alA (hz := zFrame) H ?_; clear H; intro _ _ H)
      | ((with_reducible refine isStore ?_); refine stA (hT := rWks) H ?_; clear H; intro _ H)
      | ((with_reducible refine isStore ?_); refine stA (hT := rFrame) H ?_; clear H; intro _ H)
      | ((with_reducible refine isLoad ?_); refine ldA H ?_)
      | ((with_reducible refine isLoad ?_); refine ld1A H ?_)
      | ((with_reducible refine isStore ?_); refine stA H ?_; clear H; intro _ H)
      | ((with_reducible refine isStore ?_); refine st1A H ?_; clear H; intro _ H)
      | ((with_reducible refine isBox ?_); refine bxA H ?_; clear H; intro _ _ H)
      | ((with_reducible refine isAlloc ?_); refine alA H ?_; clear H; intro _ _ H))
  refine (ROf_any 3 q3 _ (by decide) (by decide) E3 H.out.tb).mono ?_
  rintro _ _ ⟨rfl, hb⟩
  replace H := Lib.hid (H.out.go hb)
  clear hb
  go_wp2_with (first
      | go_skip
      | ((with_reducible refine isSlcT (t := 25) (n := 1) ?_); refine bsA 50 ([.string ⟨#[]⟩, .slice (some ⟨bp, 0, none⟩) np np, .bool (sgO (some q1)), .string (nuO (some q1)), .string (deO (some q1)), .bool false, .string ⟨#[]⟩, .string ⟨#[]⟩, .bool false, .bool false, .string ⟨#[]⟩, .string ⟨#[]⟩]) 1 H (fun b9 Wb9 H1 => ?_); clear H; have H := H1; clear H1)
      | ((with_reducible refine isSlcT (t := 26) (n := 1) ?_); refine bsA 52 ([.string ⟨#[]⟩, .bool (sgO (some q3)), .string (nuO (some q3)), .string (deO (some q3)), .bool false, .string ⟨#[]⟩, .string ⟨#[]⟩, .bool false, .bool false, .string ⟨#[]⟩, .string ⟨#[]⟩, .bool false, .string ⟨#[]⟩, .string ⟨#[]⟩]) 1 H (fun b14 Wb14 H1 => ?_); clear H; have H := H1; clear H1)
      | ((with_reducible refine isLoad ?_); refine ldA (hT := rWks) H ?_)
      | ((with_reducible refine isLoad ?_); refine ldA (hT := rFrame) H ?_)
      | ((with_reducible refine isAlloc ?_); refine alA (hz := zWks) H ?_; clear H; intro _ _ H)
      | ((with_reducible refine isAlloc ?_); refine alA (hz := zFrame) H ?_; clear H; intro _ _ H)
      | ((with_reducible refine isStore ?_); refine stA (hT := rWks) H ?_; clear H; intro _ H)
      | ((with_reducible refine isStore ?_); refine stA (hT := rFrame) H ?_; clear H; intro _ H)
      | ((with_reducible refine isLoad ?_); refine ldA H ?_)
      | ((with_reducible refine isLoad ?_); refine ld1A H ?_)
      | ((with_reducible refine isStore ?_); refine stA H ?_; clear H; intro _ H)
      | ((with_reducible refine isStore ?_); refine st1A H ?_; clear H; intro _ H)
      | ((with_reducible refine isBox ?_); refine bxA H ?_; clear H; intro _ _ H)
      | ((with_reducible refine isAlloc ?_); refine alA H ?_; clear H; intro _ _ H))
  have WK : WkF _ (.agg #[.slice none 0 0, .slice none 0 0, .slice (some ⟨b9, 0, none⟩) 1 1, .slice (some ⟨b14, 0, none⟩) 1 1, .slice none 0 0, .bool false, .string ⟨#[]⟩, .string ⟨#[]⟩]) [(⟨⟨#[]⟩, some ⟨bp, 0, none⟩, np, np, polyL S0, some q1, none, none⟩ : PrtE)] [(⟨⟨#[]⟩, some q3, none, none, none⟩ : SltE)] [] :=
    ⟨⟨none, none, some ⟨b9, 0, none⟩, some ⟨b14, 0, none⟩, none, 0, 0, 0, 0, 1, 1, 0, false, ⟨#[]⟩, ⟨#[]⟩, rfl, ⟨[], RowV.nil 1, by simp [rowE]⟩,
      RowW.hp H.out (cur := [.string ⟨#[]⟩, .slice (some ⟨bp, 0, none⟩) np np, .bool (sgO (some q1)), .string (nuO (some q1)), .string (deO (some q1)), .bool false, .string ⟨#[]⟩, .string ⟨#[]⟩, .bool false, .bool false, .string ⟨#[]⟩, .string ⟨#[]⟩]) ⟨rfl, .inr ⟨b9, 1, rfl, Nat.le_refl _, by decide, rfl, rfl⟩⟩ (by intro x hx; rw [List.mem_singleton.1 hx]; (repeat (first | exact List.Mem.head _ | refine List.Mem.tail _ ?_ | assumption))),
      RowW.hp H.out (cur := [.string ⟨#[]⟩, .bool (sgO (some q3)), .string (nuO (some q3)), .string (deO (some q3)), .bool false, .string ⟨#[]⟩, .string ⟨#[]⟩, .bool false, .bool false, .string ⟨#[]⟩, .string ⟨#[]⟩, .bool false, .string ⟨#[]⟩, .string ⟨#[]⟩]) ⟨rfl, .inr ⟨b14, 1, rfl, Nat.le_refl _, by decide, rfl, rfl⟩⟩ (by intro x hx; rw [List.mem_singleton.1 hx]; (repeat (first | exact List.Mem.head _ | refine List.Mem.tail _ ?_ | assumption)))⟩,
      (fun p hp => by rw [List.mem_singleton.1 hp]; exact ⟨bp, np, _, [], by rw [HNP.out]; rfl, by rw [HNP.out]; exact Nat.le_refl _, by rw [List.append_nil]; exact (H.out.blk (bp, 44, vecC (polyL S0)) (by (repeat (first | exact List.Mem.head _ | refine List.Mem.tail _ ?_ | assumption)))).2⟩), (fun p hp => by cases hp)⟩
  have ZS := Lib.hid (pok_of (p := (⟨⟨#[]⟩, some ⟨bp, 0, none⟩, np, np, polyL S0, some q1, none, none⟩ : PrtE)) ⟨S0, rfl⟩).1
  have S1 : Sz 1 q1 := by cases E1.out; exact ⟨by decide +kernel, by decide +kernel⟩
  have S3 : Sz 2 q3 := by cases E3.out; exact ⟨by decide +kernel, by decide +kernel⟩
  have S4 : Sz 2 q4 := by cases E4.out; exact ⟨by decide +kernel, by decide +kernel⟩
  have EU : q3 + rotX 0 q1 0 = q4 := by cases E1.out; cases E3.out; cases E4.out; decide +kernel
  have EV : (0 : Rat) + rotY 0 q1 0 = 0 := by cases E1.out; decide +kernel
  have EC : cmpQ q4 q4 = 0 := by cases E4.out; decide +kernel
  have EG : cmpQ q4 0 = 1 := by cases E4.out; decide +kernel
  have ED : (((1 : Int) : Rat) - 0 * 0 ≠ 0) := by decide +kernel
  have EZ : ((0 : Rat) + 0) / (((1 : Int) : Rat) - 0 * 0) = 0 := by decide +kernel
  refine (grasp_any (k := 1) (i1 := 2) (j1 := 1) (k1 := 1) (m1 := 1) q4 0 0 _ [(⟨⟨#[]⟩, some ⟨bp, 0, none⟩, np, np, polyL S0, some q1, none, none⟩ : PrtE)] [(⟨⟨#[]⟩, some q3, none, none, none⟩ : SltE)] [] (⟨⟨#[]⟩, some ⟨bp, 0, none⟩, np, np, polyL S0, some q1, none, none⟩ : PrtE) (⟨⟨#[]⟩, some q3, none, none, none⟩ : SltE) 0 0 _ (by decide) (Lib.hid WK) (Lib.hid rfl) (Lib.hid rfl) ZS (Lib.hid (polyL_cvx S0)) (by have := polyL_len S0; show ((polyL S0).length : Int) ≤ 8; omega) (by decide) (Lib.hid S3) (Lib.hid (szn 2 (by decide))) (Lib.hid (szn 1 (by decide))) (Lib.hid S1) (Lib.hid (szn 1 (by decide))) (Lib.hid (szn 1 (by decide))) (Lib.hid EU) (Lib.hid EV) (Lib.hid ED) (Lib.hid EZ) (by simp) (by simp) H.out.tb).mono ?_
  rintro _ _ ⟨rfl, hb⟩
  replace H := Lib.hid (H.out.go hb)
  clear hb
  go_wp2_with (first
      | go_skip
      | ((with_reducible refine isSlcT (t := 25) (n := 1) ?_); refine bsA 50 ([.string ⟨#[]⟩, .slice (some ⟨bp, 0, none⟩) np np, .bool (sgO (some q1)), .string (nuO (some q1)), .string (deO (some q1)), .bool false, .string ⟨#[]⟩, .string ⟨#[]⟩, .bool false, .bool false, .string ⟨#[]⟩, .string ⟨#[]⟩]) 1 H (fun b9 Wb9 H1 => ?_); clear H; have H := H1; clear H1)
      | ((with_reducible refine isSlcT (t := 26) (n := 1) ?_); refine bsA 52 ([.string ⟨#[]⟩, .bool (sgO (some q3)), .string (nuO (some q3)), .string (deO (some q3)), .bool false, .string ⟨#[]⟩, .string ⟨#[]⟩, .bool false, .bool false, .string ⟨#[]⟩, .string ⟨#[]⟩, .bool false, .string ⟨#[]⟩, .string ⟨#[]⟩]) 1 H (fun b14 Wb14 H1 => ?_); clear H; have H := H1; clear H1)
      | ((with_reducible refine isLoad ?_); refine ldA (hT := rWks) H ?_)
      | ((with_reducible refine isLoad ?_); refine ldA (hT := rFrame) H ?_)
      | ((with_reducible refine isAlloc ?_); refine alA (hz := zWks) H ?_; clear H; intro _ _ H)
      | ((with_reducible refine isAlloc ?_); refine alA (hz := zFrame) H ?_; clear H; intro _ _ H)
      | ((with_reducible refine isStore ?_); refine stA (hT := rWks) H ?_; clear H; intro _ H)
      | ((with_reducible refine isStore ?_); refine stA (hT := rFrame) H ?_; clear H; intro _ H)
      | ((with_reducible refine isLoad ?_); refine ldA H ?_)
      | ((with_reducible refine isLoad ?_); refine ld1A H ?_)
      | ((with_reducible refine isStore ?_); refine stA H ?_; clear H; intro _ H)
      | ((with_reducible refine isStore ?_); refine st1A H ?_; clear H; intro _ H)
      | ((with_reducible refine isBox ?_); refine bxA H ?_; clear H; intro _ _ H)
      | ((with_reducible refine isAlloc ?_); refine alA H ?_; clear H; intro _ _ H))
  refine wp_region_E H (by kernel_rfl) (by kernel_rfl) ?_
  repeat (first
      | (refine kskA ?_)
      | ((with_reducible refine kLoad ?_); refine kldA H ?_)
      | ((with_reducible refine kLoad ?_); refine kld1A H ?_)
      | ((fail_if_success (with_reducible refine kCall ?_)); (with_reducible refine kCons ?_); refine wpK_step (fun K hK => ?_); go_simp; refine hK _ ?_; clear hK K))
  refine wpK_step (fun K hK => ?_)
  go_simp
  apply Exists.intro
  refine ⟨fun sx => ?_, hK _ ?_⟩
  · go_at_call 22
    exact ROf_any 4 q4 _ (by decide) (by decide) E4 (H.out.tbx sx)
  clear hK K
  repeat (first
      | (refine kskA ?_)
      | ((with_reducible refine kLoad ?_); refine kldA H ?_)
      | ((with_reducible refine kLoad ?_); refine kld1A H ?_)
      | ((fail_if_success (with_reducible refine kCall ?_)); (with_reducible refine kCons ?_); refine wpK_step (fun K hK => ?_); go_simp; refine hK _ ?_; clear hK K))
  refine wpK_step (fun K hK => ?_)
  go_simp
  apply Exists.intro
  refine ⟨fun sx => ?_, hK _ ?_⟩
  · go_at_call 26
    exact RCmp_any (some q4) (some q4) 0 _ (Sz.o S4 (by decide)) (Sz.o S4 (by decide)) (Lib.hid EC) (H.out.tbx sx)
  clear hK K
  repeat (first
      | (refine kskA ?_)
      | ((with_reducible refine kLoad ?_); refine kldA H ?_)
      | ((with_reducible refine kLoad ?_); refine kld1A H ?_)
      | ((fail_if_success (with_reducible refine kCall ?_)); (with_reducible refine kCons ?_); refine wpK_step (fun K hK => ?_); go_simp; refine hK _ ?_; clear hK K))
  refine wpK_step (fun K hK => ?_)
  go_simp
  apply Exists.intro
  refine ⟨fun sx => ?_, hK _ ?_⟩
  · go_at_call 20
    exact RSign_any (some q4) 1 _ (Sz.o S4 (by decide)) (Lib.hid EG) (H.out.tbx sx)
  clear hK K
  repeat (first
      | (refine kskA ?_)
      | ((with_reducible refine kLoad ?_); refine kldA H ?_)
      | ((with_reducible refine kLoad ?_); refine kld1A H ?_)
      | ((fail_if_success (with_reducible refine kCall ?_)); (with_reducible refine kCons ?_); refine wpK_step (fun K hK => ?_); go_simp; refine hK _ ?_; clear hK K))
  refine wpKeep_nil ?_
  clear H
  intro _ H
  go_wp2_with (first
      | go_skip
      | ((with_reducible refine isSlcT (t := 25) (n := 1) ?_); refine bsA 50 ([.string ⟨#[]⟩, .slice (some ⟨bp, 0, none⟩) np np, .bool (sgO (some q1)), .string (nuO (some q1)), .string (deO (some q1)), .bool false, .string ⟨#[]⟩, .string ⟨#[]⟩, .bool false, .bool false, .string ⟨#[]⟩, .string ⟨#[]⟩]) 1 H (fun b9 Wb9 H1 => ?_); clear H; have H := H1; clear H1)
      | ((with_reducible refine isSlcT (t := 26) (n := 1) ?_); refine bsA 52 ([.string ⟨#[]⟩, .bool (sgO (some q3)), .string (nuO (some q3)), .string (deO (some q3)), .bool false, .string ⟨#[]⟩, .string ⟨#[]⟩, .bool false, .bool false, .string ⟨#[]⟩, .string ⟨#[]⟩, .bool false, .string ⟨#[]⟩, .string ⟨#[]⟩]) 1 H (fun b14 Wb14 H1 => ?_); clear H; have H := H1; clear H1)
      | ((with_reducible refine isLoad ?_); refine ldA (hT := rWks) H ?_)
      | ((with_reducible refine isLoad ?_); refine ldA (hT := rFrame) H ?_)
      | ((with_reducible refine isAlloc ?_); refine alA (hz := zWks) H ?_; clear H; intro _ _ H)
      | ((with_reducible refine isAlloc ?_); refine alA (hz := zFrame) H ?_; clear H; intro _ _ H)
      | ((with_reducible refine isStore ?_); refine stA (hT := rWks) H ?_; clear H; intro _ H)
      | ((with_reducible refine isStore ?_); refine stA (hT := rFrame) H ?_; clear H; intro _ H)
      | ((with_reducible refine isLoad ?_); refine ldA H ?_)
      | ((with_reducible refine isLoad ?_); refine ld1A H ?_)
      | ((with_reducible refine isStore ?_); refine stA H ?_; clear H; intro _ H)
      | ((with_reducible refine isStore ?_); refine st1A H ?_; clear H; intro _ H)
      | ((with_reducible refine isBox ?_); refine bxA H ?_; clear H; intro _ _ H)
      | ((with_reducible refine isAlloc ?_); refine alA H ?_; clear H; intro _ _ H))
  go_ret
  exact ⟨rfl, H.out.bel⟩
end Go.Proofs.YtmfejdikfpckdaaGreatDoor

namespace Go.Proofs.YtmfejdikfpckdaaGreatDoor
open Go.RowKit
set_option linter.unusedVariables false
set_option maxRecDepth 100000

theorem item_at {α : Type} {l : List α} {m : Nat} (h : m < l.length) : ∃ x, Hid (l[m]? = some x) ∧ x ∈ l := ⟨l[m], Lib.hid (List.getElem?_eq_getElem h), List.getElem_mem h⟩
end Go.Proofs.YtmfejdikfpckdaaGreatDoor

namespace Go.Proofs.YtmfejdikfpckdaaGreatDoor
open Go.RowKit
set_option linter.unusedVariables false
set_option maxRecDepth 100000

theorem slotN_mem {p : PrtE} {ss : List SltE} {ws : List WalE} {n x : Nat} : x ∈ slotN p ss ws n ↔ x < n ∧ clrJ p ss ws x = true := by
  unfold slotN; rw [List.mem_filter, List.mem_range]
theorem intsN_at {L : List Nat} {j : Nat} {x : Nat} (h : L[j]? = some x) : (intsN L)[j]? = some (.int .i64 (x : Int)) := by
  unfold intsN; rw [List.getElem?_map, h]; rfl
theorem mem_ints {L : List Nat} {x : Nat} : ((L.map fun j : Nat => (j : Int)).contains (x : Int)) = decide (x ∈ L) := by
  rw [List.contains_eq_mem]
  refine decide_eq_decide.2 ⟨fun h => ?_, fun h => List.mem_map.2 ⟨x, h, rfl⟩⟩
  obtain ⟨y, hy, e⟩ := List.mem_map.1 h
  have : y = x := by omega
  exact this ▸ hy
theorem containsN_any {w0 w : World} {X : Ents} {B : Option Addr} {L : List Nat} {k : Nat} {cur : List Value} (R : Hid (RowV 1 (.slice B L.length k) L.length (intsN L) cur)) (H : Hid (Hp w0 w (X ++ rowE (.slice B L.length k) 3 cur))) (x : Nat) (r : Bool) (hr : Hid (decide (x ∈ L) = r)) :
    Calls Tryz.prog 18 #[.slice B L.length k, .int .i64 (x : Int)] w fun e w' => e = .returned (.bool r) ∧ w' = w := by
  rcases Nat.eq_zero_or_pos L.length with h0 | h0
  · have e : L = [] := List.eq_nil_of_length_eq_zero h0
    subst e
    have e2 : r = false := by rw [← hr.out]; rfl
    subst e2
    exact Tryz.slices_Contains_int_empty B k x w
  · rcases R.out.or_ with ⟨e, h⟩ | ⟨g, cap, e, h1, h2, h3, h4⟩
    · omega
    · cases e
      have hb : Blk w g 3 cur.toArray := (H.out.blk (g, 3, cur) (List.mem_append_right _ (by simp [rowE]))).2
      refine (Tryz.slices_Contains_int g 0 L.length k (L.map fun j : Nat => (j : Int)) x w (by simp) (by have := h2; unfold maxLen at this; omega) (fun j hj => ?_)).mono ?_
      · rw [List.length_map] at hj
        have hx := intsN_at (List.getElem?_eq_getElem hj)
        rw [← h4, List.getElem?_take, if_pos (by omega)] at hx
        rw [Nat.zero_add, hb.cell]
        rw [List.getD_eq_getElem?_getD, List.getElem?_map, List.getElem?_eq_getElem hj]
        simpa using hx
      · rintro _ _ ⟨rfl, rfl⟩
        refine ⟨?_, rfl⟩
        rw [List.take_of_length_le (by simp), mem_ints, hr.out]
theorem flat_cut {ss : List SltE} {m : Nat} {s : SltE} (h : ss[m]? = some s) : flat sltC ss = flat sltC (ss.take m) ++ sltC s ++ flat sltC (ss.drop (m + 1)) ∧ (flat sltC (ss.take m)).length = 14 * m := by
  have hm := (List.getElem?_eq_some_iff.1 h).1
  have he := (List.getElem?_eq_some_iff.1 h).2
  refine ⟨?_, ?_⟩
  · conv => lhs; rw [← List.take_append_drop m ss, List.drop_eq_getElem_cons hm, he]
    unfold flat
    rw [List.flatMap_append, List.flatMap_cons, List.append_assoc]
  · rw [flat_len sltC_len, List.length_take, Nat.min_eq_left (by omega), Nat.mul_comm]
theorem flat_set {ss : List SltE} {m : Nat} {s t : SltE} (h : ss[m]? = some s) : flat sltC (ss.set m t) = flat sltC (ss.take m) ++ sltC t ++ flat sltC (ss.drop (m + 1)) := by
  have hm := (List.getElem?_eq_some_iff.1 h).1
  rw [List.set_eq_take_append_cons_drop, if_pos hm]
  unfold flat
  rw [List.flatMap_append, List.flatMap_cons, List.append_assoc]
/-- A slot's tolerance is set to 0. -/
theorem RowV.tight {g n k m : Nat} {ss : List SltE} {s : SltE} {cur : List Value} (R : RowV 14 (.slice (some ⟨g, 0, none⟩) n k) n (flat sltC ss) cur) (h : ss[m]? = some s) : RowV 14 (.slice (some ⟨g, 0, none⟩) n k) n (flat sltC (ss.set m s.tight)) (cur.take (14 * m + 11) ++ [.bool (sgO (some 0)), .string (nuO (some 0)), .string (deO (some 0))] ++ cur.drop (14 * m + 14)) ∧ 14 * m + 14 ≤ cur.length := by
  obtain ⟨hc, hl⟩ := flat_cut h
  rcases R.or_ with ⟨e, _⟩ | ⟨g', cap, e, h1, h2, h3, h4⟩
  · cases e
  · cases e
    obtain ⟨more, hm⟩ : ∃ more, cur = flat sltC ss ++ more := ⟨cur.drop (n * 14), by rw [← h4, List.take_append_drop]⟩
    have h5 := R.len
    have h6 : (sltC s).length = 14 := rfl
    have e1 : cur.take (14 * m + 11) = flat sltC (ss.take m) ++ (sltC s).take 11 := by
      rw [hm, hc, List.append_assoc, List.append_assoc, List.take_append, hl, List.take_of_length_le (by omega), show 14 * m + 11 - 14 * m = 11 by omega, List.take_append_of_le_length (by rw [h6]; omega)]
    have e2 : cur.drop (14 * m + 14) = flat sltC (ss.drop (m + 1)) ++ more := by
      rw [hm, hc, List.append_assoc, List.append_assoc, List.drop_append, hl, List.drop_eq_nil_of_le (by omega), List.nil_append, show 14 * m + 14 - 14 * m = 14 by omega, List.drop_append_of_le_length (by rw [h6]; omega)]
      rfl
    have e3 : cur.take (14 * m + 11) ++ [.bool (sgO (some 0)), .string (nuO (some 0)), .string (deO (some 0))] ++ cur.drop (14 * m + 14) = flat sltC (ss.set m s.tight) ++ more := by
      rw [e1, e2, flat_set h]
      have : (sltC s).take 11 ++ [.bool (sgO (some 0)), .string (nuO (some 0)), .string (deO (some 0))] = sltC s.tight := rfl
      rw [List.append_assoc (flat sltC (ss.take m)), this]
      simp only [List.append_assoc]
    have hn : (flat sltC (ss.set m s.tight)).length = n * 14 := by
      rw [flat_len sltC_len, List.length_set, ← flat_len sltC_len ss]; exact h5
    rw [e3]
    refine ⟨⟨hn, .inr ⟨_, _, rfl, h1, h2, ?_, ?_⟩⟩, ?_⟩
    · rw [List.length_append, hn]
      rw [hm, List.length_append, h5] at h3
      exact h3
    · rw [← hn, List.take_left']
      rfl
    · have := congrArg List.length hc
      rw [List.length_append, List.length_append, hl, h6] at this
      rw [hm, List.length_append]
      omega
section
variable {P : Program} {ops : Array Oper} {rest : List Oper} {o : Oper} {a : Act} {w0 w : World} {l l' : Ents} {Q : Exit → Act → World → Prop}
theorem stTight (H : Hid (Hp w0 w l)) {b n k m : Nat} {ss : List SltE} {s : SltE} {cur : List Value} (R : Hid (RowV 14 (.slice (some ⟨b, 0, none⟩) n k) n (flat sltC ss) cur)) (hs : Hid (ss[m]? = some s)) {T t : TypeId} {p x : Operand} {j : Nat}
    (hu : Upd l b T cur (cur.take (14 * m + 11) ++ [.bool (sgO (some 0)), .string (nuO (some 0)), .string (deO (some 0))] ++ cur.drop (14 * m + 14)) l') (hK : ∀ W', Hid (Hp w0 W' l') → wpList P ops Q rest a W') (hT : RowT P t 3) (ho : o.op = .store t p x := by rfl) (hg : o.guard = none := by rfl) (hd : o.dst = none := by rfl) (hp : a.eval p = .pointer (some ⟨b, j, none⟩) := by rfl) (hj : j = 14 * m + 11 := by omega)
    (hx : a.eval x = .agg #[.bool (sgO (some 0)), .string (nuO (some 0)), .string (deO (some 0))] := by rfl) : wpList P ops Q (o :: rest) a w := by
  subst hj
  exact wpList_storeH (vs := [.bool (sgO (some 0)), .string (nuO (some 0)), .string (deO (some 0))]) H ho hg hd hT hp hx hu rfl rfl (R.out.tight hs.out).2 rfl hK
end
theorem wk_tight {w : World} {ps : List PrtE} {ss : List SltE} {ws : List WalE} {a1 a2 a3 a5 : Option Addr} {n1 n5 c1 c2 c3 c5 nw g k : Nat} {wb : Bool} {w1 w2 : ByteArray} {cur : List Value} (hn : ws.length = nw) (RW : RowW w 40 1 (.slice a2 nw c2) nw (flat walC ws)) (RP : RowW w 50 12 (.slice a3 ps.length c3) ps.length (flat prtC ps)) (m : Nat) (t : SltE) (R : RowV 14 (.slice (some ⟨g, 0, none⟩) ss.length k) ss.length (flat sltC (ss.set m t)) cur) (B : Blk w g 52 cur.toArray) (HP : ∀ p ∈ ps, VAt w p.sh p.l) (HW : ∀ p ∈ ws, VAt w p.sh p.l) :
    WkF w (.agg #[.slice a1 n1 c1, .slice a2 nw c2, .slice a3 ps.length c3, .slice (some ⟨g, 0, none⟩) ss.length k, .slice a5 n5 c5, .bool wb, .string w1, .string w2]) ps (ss.set m t) ws := by
  subst hn
  have hl : (ss.set m t).length = ss.length := List.length_set
  exact ⟨⟨a1, a2, a3, some ⟨g, 0, none⟩, a5, n1, n5, c1, c2, c3, k, c5, wb, w1, w2, by rw [hl], RW, RP, by rw [hl]; exact ⟨cur, R, fun x hx => by
    simp only [rowE, List.mem_singleton] at hx
    subst hx
    exact B⟩⟩, HP, HW⟩
end Go.Proofs.YtmfejdikfpckdaaGreatDoor
