/- The walk of act.Start. -/
import Derived.Test.YtioofkhadjaldaaWldB
namespace Go.Proofs.Ytioofkhadjaldaa
open Go.RowKit
set_option linter.unusedVariables false
set_option maxRecDepth 100000

/-- Where Start stands: the works' box, the result's box, the world that is made (block gt), its rows. -/
structure SQ (h gt : Nat) (w0 w : World) (na np ns : Nat) (A P S : Option Addr) (ca cp cs : Nat) (k q : Nat) (hs g2 : Nat) (A1 A3 : Option Addr) (c1 c3 : Nat) : Prop where
  X : Blk w h 35 (worksV na np ns A P S ca cp cs)
  Z : Blk w (h + 1) 25 #[.int .i64 0, .slice none 0 0, .slice none 0 0, .slice none 0 0]
  T : Blk w gt 25 #[.int .i64 ns, .slice A1 k c1, .slice (some ⟨g2, 0, none⟩) np np, .slice A3 q c3]
  op : w.ownsRow h 3 1 (.slice A1 k c1) k ((List.replicate k (-1)).map (Value.int .i64))
  os : w.ownsRow h 4 1 (.slice (some ⟨g2, 0, none⟩) np np) np ((List.replicate np false).map Value.bool)
  oq : w.ownsRow hs 3 1 (.slice A3 q c3) q ((List.replicate q (-1)).map (Value.int .i64))
  hh : h ≤ hs
  ng : h + 1 < gt
  B : Below h w0 w

theorem made_bool (n : Nat) : madeCells #[.bool false] n = ((List.replicate n false).map Value.bool).toArray := by
  apply Array.ext
  · simp [size_madeCells]
  · intro i h1 h2
    simp [madeCells, Nat.mod_one]
theorem own_made (w : World) (h n : Nat) (hh : h ≤ w.heap.size) (hn : n ≤ 1000) : (w.alloc (.cells (madeCells #[.bool false] n) 4)).ownsRow h 4 1 (.slice (some ⟨w.heap.size, 0, none⟩) n n) n ((List.replicate n false).map Value.bool) := by
  have := World.ownsRow_lit (base := h) (e := 4) (size := 1) w (madeCells #[.bool false] n) n hh (by unfold maxLen; omega) (by simp [size_madeCells])
  rw [made_bool] at this ⊢
  simpa using this
section
variable {h gt : Nat} {w0 w w' : World} {na np ns : Nat} {A P S : Option Addr} {ca cp cs : Nat}
theorem SQ.made1 (X : Blk w h 35 (worksV na np ns A P S ca cp cs)) (Z : Blk w (h + 1) 25 #[.int .i64 0, .slice none 0 0, .slice none 0 0, .slice none 0 0]) (B : Below h w0 w) (hs : w.heap.size = h + 1 + 1) (hn : np ≤ 1000) :
    SQ h (w.heap.size + 1) w0 ((w.alloc (.cells (madeCells #[.bool false] np) 4)).alloc (.cells #[.int .i64 ns, .slice none 0 0, .slice (some ⟨w.heap.size, 0, none⟩) np np, .slice none 0 0] 25)).drew na np ns A P S ca cp cs 0 0 h w.heap.size none none 0 0 :=
  ⟨(X.alloc _).alloc _, (Z.alloc _).alloc _, blk_two _ _ _ _, World.ownsRow_nil _ _ _ _, (own_made w h np (by omega) hn).alloc _, World.ownsRow_nil _ _ _ _, Nat.le_refl _, by omega, ((B.alloc (by omega) _).alloc (by simp; omega) _).drew⟩
theorem SQ.made2 (X : Blk w h 35 (worksV na np ns A P S ca cp cs)) (Z : Blk w (h + 1) 25 #[.int .i64 0, .slice none 0 0, .slice none 0 0, .slice none 0 0]) (B : Below h w0 w) (hs : w.heap.size = h + 1 + 1) (hn : np ≤ 1000) :
    SQ h w.heap.size w0 ((w.alloc (.cells #[.int .i64 ns, .slice none 0 0, .slice (some ⟨w.heap.size + 1, 0, none⟩) np np, .slice none 0 0] 25)).alloc (.cells (madeCells #[.bool false] np) 4)).drew na np ns A P S ca cp cs 0 0 h (w.heap.size + 1) none none 0 0 := by
  have o := own_made (w.alloc (.cells #[.int .i64 ns, .slice none 0 0, .slice (some ⟨w.heap.size + 1, 0, none⟩) np np, .slice none 0 0] 25)) h np (by simp; omega) hn
  rw [World.size_alloc] at o
  exact ⟨(X.alloc _).alloc _, (Z.alloc _).alloc _, (Blk.new _ _ _).alloc _, World.ownsRow_nil _ _ _ _, o, World.ownsRow_nil _ _ _ _, Nat.le_refl _, by omega, ((B.alloc (by omega) _).alloc (by simp; omega) _).drew⟩
variable {k q hs g2 : Nat} {A1 A3 : Option Addr} {c1 c3 : Nat}
theorem SQ.keep (s : SQ h gt w0 w na np ns A P S ca cp cs k q hs g2 A1 A3 c1 c3) (hb : Below w.heap.size w w') : SQ h gt w0 w' na np ns A P S ca cp cs k q hs g2 A1 A3 c1 c3 :=
  ⟨s.X.below hb s.X.lt, s.Z.below hb s.Z.lt, s.T.below hb s.T.lt, own_bel s.op hb, own_bel s.os hb, own_bel s.oq hb, s.hh, s.ng, s.B.trans (hb.mono (by have := s.X.lt; omega))⟩
theorem SQ.le (s : SQ h gt w0 w na np ns A P S ca cp cs k q hs g2 A1 A3 c1 c3) : h ≤ w.heap.size := by have := s.X.lt; omega
theorem rep_snoc {α : Type} (k : Nat) (x : α) : List.replicate (k + 1) x = List.replicate k x ++ [x] := by rw [List.replicate_succ']
theorem SQ.place (s : SQ h gt w0 w na np ns A P S ca cp cs k q hs g2 A1 A3 c1 c3) {A1' : Option Addr} {c1' : Nat} (ho : w'.ownsRow h 3 1 (.slice A1' (k + 1) c1') (k + 1) ((List.replicate k (-1)).map (Value.int .i64) ++ [.int .i64 (-1)])) (hg : w.grownBy w' (Value.slice A1 k c1).ownBlock)
    (hne : (Value.slice A3 q c3).ownBlock = none ∨ (Value.slice A3 q c3).ownBlock ≠ (Value.slice A1 k c1).ownBlock) : SQ h gt w0 (w'.setCell ⟨gt, 1, none⟩ (.slice A1' (k + 1) c1')) na np ns A P S ca cp cs (k + 1) q hs g2 A1' A3 c1' c3 := by
  have hX := s.X.grown hg (own_blk_ne' s.X s.op (by decide))
  have hZ := s.Z.grown hg (own_blk_ne' s.Z s.op (by decide))
  have hT := s.T.grown hg (own_blk_ne' s.T s.op (by decide))
  have hB := s.B.grown hg s.le (fun j hj => (s.op.lt j hj).1)
  have o2 := s.os.kept hg (own_own_ne s.os s.op (by decide))
  have o3 := s.oq.kept hg hne
  have n1 := s.ng
  have ho2 : w'.ownsRow h 3 1 (.slice A1' (k + 1) c1') (k + 1) ((List.replicate (k + 1) (-1)).map (Value.int .i64)) := by rw [rep_snoc, List.map_append]; exact ho
  exact ⟨hX.far (p := ⟨gt, 1, none⟩) (by show h ≠ gt; omega) _, hZ.far (p := ⟨gt, 1, none⟩) (by show h + 1 ≠ gt; omega) _, hT.seti 1 _ rfl, own_set_far ho2 hT (by decide) 1 _, own_set_far o2 hT (by decide) 1 _, own_set_far o3 hT (by decide) 1 _, s.hh, s.ng, hB.setCell (p := ⟨gt, 1, none⟩) (by show h ≤ gt; omega) _⟩
theorem SQ.spot (s : SQ h gt w0 w na np ns A P S ca cp cs k q hs g2 A1 A3 c1 c3) {A3' : Option Addr} {c3' : Nat} (ho : w'.ownsRow hs 3 1 (.slice A3' (q + 1) c3') (q + 1) ((List.replicate q (-1)).map (Value.int .i64) ++ [.int .i64 (-1)])) (hg : w.grownBy w' (Value.slice A3 q c3).ownBlock)
    (hne : (Value.slice A1 k c1).ownBlock = none ∨ (Value.slice A1 k c1).ownBlock ≠ (Value.slice A3 q c3).ownBlock) : SQ h gt w0 (w'.setCell ⟨gt, 3, none⟩ (.slice A3' (q + 1) c3')) na np ns A P S ca cp cs k (q + 1) hs g2 A1 A3' c1 c3' := by
  have hX := s.X.grown hg (own_blk_ne' s.X s.oq (by decide))
  have hZ := s.Z.grown hg (own_blk_ne' s.Z s.oq (by decide))
  have hT := s.T.grown hg (own_blk_ne' s.T s.oq (by decide))
  have hB := s.B.grown hg s.le (fun j hj => Nat.le_trans s.hh (s.oq.lt j hj).1)
  have o2 := s.os.kept hg (own_own_ne s.os s.oq (by decide))
  have o1 := s.op.kept hg hne
  have n1 := s.ng
  have ho2 : w'.ownsRow hs 3 1 (.slice A3' (q + 1) c3') (q + 1) ((List.replicate (q + 1) (-1)).map (Value.int .i64)) := by rw [rep_snoc, List.map_append]; exact ho
  exact ⟨hX.far (p := ⟨gt, 3, none⟩) (by show h ≠ gt; omega) _, hZ.far (p := ⟨gt, 3, none⟩) (by show h + 1 ≠ gt; omega) _, hT.seti 3 _ rfl, own_set_far o1 hT (by decide) 3 _, own_set_far o2 hT (by decide) 3 _, own_set_far ho2 hT (by decide) 3 _, s.hh, s.ng, hB.setCell (p := ⟨gt, 3, none⟩) (by show h ≤ gt; omega) _⟩
end
set_option maxHeartbeats 20000000 in
theorem Start_any (na np ns : Nat) (A P S : Option Addr) (ca cp cs : Nat) (w : World) (ha : 1 ≤ na ∧ na ≤ 2) (hp : 1 ≤ np ∧ np ≤ 2) (hn : ns ≤ 2) :
    Calls Try.prog 40 #[.agg (worksV na np ns A P S ca cp cs)] w fun e w' => ∃ (g1 g2 g3 d1 d2 d3 : Nat), e = .returned (.agg #[.int .i64 ns, .slice (some ⟨g1, 0, none⟩) np d1, .slice (some ⟨g2, 0, none⟩) np d2, .slice (some ⟨g3, 0, none⟩) na d3]) ∧ OW w.heap.size w' ⟨ns, List.replicate np (-1), List.replicate np false, List.replicate na (-1)⟩ g1 g2 g3 np na d1 d2 d3 ∧ Below w.heap.size w w' := by
  obtain ⟨ha1, ha2⟩ := ha
  obtain ⟨hp1, hp2⟩ := hp
  have B1 := Lib.hid ((Below.refl w.heap.size w).alloc (Nat.le_refl _) (.cells (worksV na np ns A P S ca cp cs) 35))
  have B2 := Lib.hid (B1.out.alloc B1.out.size (.cells #[.int .i64 0, .slice none 0 0, .slice none 0 0, .slice none 0 0] 25))
  have x0 := ((Blk.new w 35 (worksV na np ns A P S ca cp cs)).alloc (.cells #[.int .i64 0, .slice none 0 0, .slice none 0 0, .slice none 0 0] 25)).cell 0
  have x2 := ((Blk.new w 35 (worksV na np ns A P S ca cp cs)).alloc (.cells #[.int .i64 0, .slice none 0 0, .slice none 0 0, .slice none 0 0] 25)).cell 2
  have x3 := ((Blk.new w 35 (worksV na np ns A P S ca cp cs)).alloc (.cells #[.int .i64 0, .slice none 0 0, .slice none 0 0, .slice none 0 0] 25)).cell 3
  have d1 : decide ((4 : Int) < na) = false := by simp; omega
  have d2 : decide ((6 : Int) < np) = false := by simp; omega
  have d3 : decide ((8 : Int) < ns) = false := by simp; omega
  go_enter Try.func40, Try.ntmps40
  go_wp2_with fail
  clear d1 d2 d3
  have hmk := run_make_row' (P := Try.prog) 23 4 (.bool false) 1 Try.underlying23 info_bool rfl .i64 .i64 np (by omega) (by omega)
  have KX := (Blk.new w 35 (worksV na np ns A P S ca cp cs)).alloc (.cells #[.int .i64 0, .slice none 0 0, .slice none 0 0, .slice none 0 0] 25)
  have KZ : Blk ((w.alloc (.cells (worksV na np ns A P S ca cp cs) 35)).alloc (.cells #[.int .i64 0, .slice none 0 0, .slice none 0 0, .slice none 0 0] 25)) (w.heap.size + 1) 25 #[.int .i64 0, .slice none 0 0, .slice none 0 0, .slice none 0 0] := blk_two _ _ _ _
  have hs2 : ((w.alloc (.cells (worksV na np ns A P S ca cp cs) 35)).alloc (.cells #[.int .i64 0, .slice none 0 0, .slice none 0 0, .slice none 0 0] 25)).heap.size = w.heap.size + 1 + 1 := by simp
  have HKX := Lib.hid KX
  have HKZ := Lib.hid KZ
  have HS2 := Lib.hid hs2
  clear KX KZ hs2 B1
  generalize hw2 : (w.alloc (.cells (worksV na np ns A P S ca cp cs) 35)).alloc (.cells #[.int .i64 0, .slice none 0 0, .slice none 0 0, .slice none 0 0] 25) = w2 at x0 x2 x3 B2 HKX HKZ HS2 ⊢
  clear hw2
  have x3a := (HKX.out.alloc (.cells (madeCells #[.bool false] np) 4)).cell 3
  have x2a := (HKX.out.alloc (.cells (madeCells #[.bool false] np) 4)).cell 2
  have x3b := (HKX.out.alloc (.cells #[.int .i64 0, .slice none 0 0, .slice none 0 0, .slice none 0 0] 25)).cell 3
  have x2b := (HKX.out.alloc (.cells #[.int .i64 0, .slice none 0 0, .slice none 0 0, .slice none 0 0] 25)).cell 2
  have x3c := ((HKX.out.alloc (.cells (madeCells #[.bool false] np) 4)).alloc (.cells #[.int .i64 0, .slice none 0 0, .slice none 0 0, .slice none 0 0] 25)).cell 3
  have x3d := ((HKX.out.alloc (.cells #[.int .i64 0, .slice none 0 0, .slice none 0 0, .slice none 0 0] 25)).alloc (.cells (madeCells #[.bool false] np) 4)).cell 3
  go_cut [3] (fun s3 wx => ∃ gt g2 : Nat, s3 = .pointer (some ⟨gt, 0, none⟩) ∧ Hid (SQ w.heap.size gt w wx na np ns A P S ca cp cs 0 0 w.heap.size g2 none none 0 0))
  case first =>
    go_region
    all_goals
      go_wp2_with fail
      go_meet
      first
      | exact ⟨_, _, rfl, SQ.made1 HKX.out HKZ.out B2.out HS2.out (by omega)⟩
      | exact ⟨_, _, rfl, SQ.made2 HKX.out HKZ.out B2.out HS2.out (by omega)⟩
  case rest =>
    clear x3a x2a x3b x2b x3c x3d x0 x2 x3 B2 HKX HKZ HS2 hmk
    obtain ⟨gt, g2, rfl, Q0⟩ := hcut
    obtain ⟨i0, ii, iz0, iz1, iz2⟩ := info_parts info_int
    have x2 := Q0.out.X.cell 2
    go_wp2_with fail
    clear x2
    go_loopw [32] (fun i wr => ∃ (k : Nat) (A1 : Option Addr) (c1 : Nat), i = .int .i64 k ∧ k ≤ np ∧ Hid (SQ w.heap.size gt w wr na np ns A P S ca cp cs k 0 w.heap.size g2 A1 none c1 0)) (fun i _ => np - (intOf i).toNat)
    case atStart => exact ⟨0, none, 0, rfl, by omega, Q0⟩
    case round =>
      clear Q0
      obtain ⟨k, A1, c1, rfl, hk, Q1⟩ := hrel
      by_cases hlt : k < np
      · have t1 := Q1.out.T.cell 1
        have hk2 : k ≤ 2 := by omega
        go_wp2_with (at_builtin; have KA := Lib.hid ((Below.refl wr.heap.size wr).alloc (Nat.le_refl _) (.cells #[.int .i64 (-1)] 3)); have Q7 := Lib.hid (Q1.out.keep KA.out); clear KA; refine wpList_append_one _ rfl (.tmp 35) (.tmp 36) 22 rfl w.heap.size 3 i0 (.int .i64 0) 8 Try.underlying22 ii iz0 iz1 iz2 rfl (.slice A1 k c1) k _ rfl Q7.out.op wr.heap.size (.int .i64 (-1)) rfl (World.cell?_alloc_at _ _ _ _ rfl) rfl (by unfold maxLen; omega) (by omega) Q7.out.le ?_; intro v8 w8 hown8 hg8; obtain ⟨B1, e1, hv8⟩ := own_slice hown8; subst hv8; have Q8 := Lib.hid (Q7.out.place hown8 hg8 (.inl rfl)); have t8 := (Q7.out.T.grown hg8 (own_blk_ne' Q7.out.T Q7.out.op (by decide))).cell 1; have g8 := (Q7.out.T.grown hg8 (own_blk_ne' Q7.out.T Q7.out.op (by decide))).frozen 1; clear hown8 hg8)
        go_roundw
        case rel => exact ⟨k + 1, B1, e1, by go_num, by omega, Q8⟩
        case measure => simp [intOf]; omega
      · have hkn : k = np := by omega
        subst hkn
        have HB1 : Hid (∀ j, (Value.slice A1 k c1).ownBlock = some j → j < wr.heap.size) := fun j hj => (Q1.out.op.lt j hj).2
        obtain ⟨hs, hhs⟩ : ∃ hs, hs = wr.heap.size := ⟨_, rfl⟩
        have Q2 : Hid (SQ w.heap.size gt w wr na k ns A P S ca cp cs k 0 hs g2 A1 none c1 0) := ⟨Q1.out.X, Q1.out.Z, Q1.out.T, Q1.out.op, Q1.out.os, World.ownsRow_nil _ _ _ _, by rw [hhs]; exact Q1.out.le, Q1.out.ng, Q1.out.B⟩
        rw [← hhs] at HB1
        have HBE : Hid (hs ≤ wr.heap.size) := by rw [hhs]; exact Nat.le_refl _
        clear hhs Q1
        have x0 := Q2.out.X.cell 0
        go_wp2_with fail
        clear x0
        go_loopw [43] (fun i wr => ∃ (q : Nat) (A3 : Option Addr) (c3 : Nat), i = .int .i64 q ∧ q ≤ na ∧ Hid (hs ≤ wr.heap.size) ∧ Hid (SQ w.heap.size gt w wr na k ns A P S ca cp cs k q hs g2 A1 A3 c1 c3)) (fun i _ => na - (intOf i).toNat)
        case atStart => exact ⟨0, none, 0, rfl, by omega, HBE, Q2⟩
        case round =>
          clear Q2 HBE
          obtain ⟨q, A3, c3, rfl, hq, HBE, Q3⟩ := hrel
          have HNE : Hid (∀ j, (Value.slice A1 k c1).ownBlock = some j → (Value.slice A3 q c3).ownBlock ≠ some j) := fun j hj he => by
            have h1 := HB1.out j hj
            have h2 := (Q3.out.oq.lt j he).1
            omega
          by_cases hlt2 : q < na
          · have t1 := Q3.out.T.cell 3
            have hq2 : q ≤ 2 := by omega
            go_wp2_with (at_builtin; have KA := Lib.hid ((Below.refl wr.heap.size wr).alloc (Nat.le_refl _) (.cells #[.int .i64 (-1)] 3)); have Q7 := Lib.hid (Q3.out.keep KA.out); have LB := Lib.hid (Nat.le_trans HBE.out KA.out.size); clear KA; refine wpList_append_one _ rfl (.tmp 46) (.tmp 47) 22 rfl hs 3 i0 (.int .i64 0) 8 Try.underlying22 ii iz0 iz1 iz2 rfl (.slice A3 q c3) q _ rfl Q7.out.oq wr.heap.size (.int .i64 (-1)) rfl (World.cell?_alloc_at _ _ _ _ rfl) rfl (by unfold maxLen; omega) (by omega) LB.out ?_; intro v8 w8 hown8 hg8; obtain ⟨B3, e3, hv8⟩ := own_slice hown8; subst hv8; have Q8 := Lib.hid (Q7.out.spot hown8 hg8 (own_apart HNE.out)); have t8 := (Q7.out.T.grown hg8 (own_blk_ne' Q7.out.T Q7.out.oq (by decide))).cell 3; have g8 := (Q7.out.T.grown hg8 (own_blk_ne' Q7.out.T Q7.out.oq (by decide))).frozen 3; have LB8 := Lib.hid (Nat.le_trans LB.out hg8.size); clear hown8 hg8)
            go_roundw
            case rel => exact ⟨q + 1, B3, e3, by go_num, by omega, (by have := LB8.out; unfold Hid; simpa [World.setCell] using this), Q8⟩
            case measure => simp [intOf]; omega
          · have hqn : q = na := by omega
            subst hqn
            obtain ⟨t0, t1, t2, t3⟩ := blk4 Q3.out.T
            obtain ⟨z0, z1, z2, z3⟩ := blk4 Q3.out.Z
            obtain ⟨f0, f1, f2, f3⟩ := frz Q3.out.Z
            have Y9 := Lib.hid (Q3.out.Z.set4 (.int .i64 ns) (.slice A1 k c1) (.slice (some ⟨g2, 0, none⟩) k k) (.slice A3 q c3))
            have B9 := Lib.hid (below_set4 Q3.out.B (show w.heap.size ≤ w.heap.size + 1 by omega) (.int .i64 ns) (.slice A1 k c1) (.slice (some ⟨g2, 0, none⟩) k k) (.slice A3 q c3))
            have O1 := Lib.hid (own_set4 Q3.out.op Q3.out.Z (by decide) (.int .i64 ns) (.slice A1 k c1) (.slice (some ⟨g2, 0, none⟩) k k) (.slice A3 q c3))
            have O2 := Lib.hid (own_set4 Q3.out.os Q3.out.Z (by decide) (.int .i64 ns) (.slice A1 k c1) (.slice (some ⟨g2, 0, none⟩) k k) (.slice A3 q c3))
            have O3 := Lib.hid (own_mono (own_set4 Q3.out.oq Q3.out.Z (by decide) (.int .i64 ns) (.slice A1 k c1) (.slice (some ⟨g2, 0, none⟩) k k) (.slice A3 q c3)) Q3.out.hh)
            unfold set4 at Y9 B9 O1 O2 O3
            clear Q3
            go_wp2_with fail
            clear t0 t1 t2 t3 z0 z1 z2 z3 f0 f1 f2 f3
            generalize (((wr.setCell ⟨w.heap.size + 1, 0, none⟩ (.int .i64 ns)).setCell ⟨w.heap.size + 1, 1, none⟩ (.slice A1 k c1)).setCell ⟨w.heap.size + 1, 2, none⟩ (.slice (some ⟨g2, 0, none⟩) k k)).setCell ⟨w.heap.size + 1, 3, none⟩ (.slice A3 q c3) = w9 at Y9 B9 O1 O2 O3 ⊢
            obtain ⟨z0, z1, z2, z3⟩ := blk4 Y9.out
            obtain ⟨g1, e1, hv1, _⟩ := O1.out.form (by omega)
            obtain ⟨g3, e3, hv3, _⟩ := O3.out.form (by omega)
            cases hv1
            cases hv3
            exact bodyPost_ret (v := .agg #[.int .i64 ns, .slice (some ⟨g1, 0, none⟩) k c1, .slice (some ⟨g2, 0, none⟩) k k, .slice (some ⟨g3, 0, none⟩) q c3]) (by simp [results, Try.results40, go_sem, z0, z1, z2, z3]) rfl ⟨g1, g2, g3, c1, k, c3, rfl, ⟨O1.out, O2.out, O3.out, fun e => HNE.out g1 rfl (by rw [e]; rfl)⟩, B9.out⟩
end Go.Proofs.Ytioofkhadjaldaa
