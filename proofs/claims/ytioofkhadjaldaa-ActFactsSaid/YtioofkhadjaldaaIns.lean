/- The walk of slices.Insert of one step ahead of two. -/
import Derived.Test.YtioofkhadjaldaaActK
import Derived.Lib.AppendZeros
import Derived.Laws.CopyRow
import Derived.Laws.CopyOwn
import Derived.Deep.RegionLaw
namespace Go.Proofs.Ytioofkhadjaldaa
open Go.RowKit
set_option linter.unusedVariables false
set_option maxRecDepth 100000

theorem info_step : (Try.prog.info? 39).map (fun i => (i.zero, i.size, i.bytes)) = some (some (.agg #[.int .i64 0, .int .i64 0, .int .i64 0, .int .i64 0, .int .i64 0]), 5, 40) := by kernel_rfl
theorem run_copy_k {P : Program} (w : World) (k : Nat) (dT sT ty elem : TypeId) (g o dLen dCap : Nat) (a : Addr) (sLen sCap : Nat) (cur : Array Value) (t : TypeId) (cs : List Value)
    (hu : P.underlying dT = some (.slice elem)) (hs : (P.info? elem).map (·.size) = some k)
    (hg : w.heap[g]? = some (.cells cur t (0, 0))) (hn : cs.length = Nat.min sLen dLen * k)
    (hsrc : ∀ j v, cs[j]? = some v → w.cell? (a.add j) = some v) (hfit : o + cs.length ≤ cur.size) (h1 : ∀ v ∈ cs, v.oneCell' = true) :
    (Builtin.copy_ #[dT, sT] ty #[.slice (some ⟨g, o, none⟩) dLen dCap, .slice (some a) sLen sCap]).run P w =
      .ok (goInt (Nat.min sLen dLen)) (w.setRow g (cur.toList.take o ++ cs ++ cur.toList.drop (o + cs.length)).toArray) := by
  have hl := run_loadCells_list (P := P) w a cs hsrc
  have hst := run_storeCells_at P g o t cs 0 cur w hg (by simpa using hfit) h1
  cases hq : P.info? elem with
  | none => simp [hq] at hs
  | some i =>
    have hi : i.size = k := by simpa [hq] using hs
    simp [Builtin.copy_, run_underlying hu, Builtin.lenOf, Builtin.firstCells, sizeOf, typeInfo, hq, hi, ← hn, hl, hst]
theorem run_grow3 (w : World) (a : Addr) : ∃ c, 3 ≤ c ∧ (Builtin.append_ #[40, 3] 40 #[.slice (some a) 0 2, .int .i64 3]).run Try.prog w = .ok (.slice (some ⟨w.heap.size, 0, none⟩) 3 c) (w.drew.alloc (.cells (Builtin.zeroCells #[.int .i64 0, .int .i64 0, .int .i64 0, .int .i64 0, .int .i64 0] 3 ++ Builtin.zeroCells #[.int .i64 0, .int .i64 0, .int .i64 0, .int .i64 0, .int .i64 0] (c - 3)) 39)) := by
  obtain ⟨i0, hi, hz0, hz1, hz2⟩ := info_parts info_step
  have ht := Try.underlying40
  have htn := Try.underlying3
  have hw : IntKind.i64.wrap (3 : Int) = 3 := by decide
  refine ⟨grownCap w 3 2 39, ?_, ?_⟩
  · exact grownCap_ge _ _ _ _
  · have h1 : ¬ ((9223372036854775807 : Nat) < max 3 0) := by decide
    have h2 : ¬ ((9223372036854775807 : Int) < max 3 0) := by decide
    simp [Builtin.append_, run_underlying ht, run_underlying htn, sizeOf, typeInfo, zeroValue, hi, hz0, hz1, hz2, asInt, asIntOf, hw, Question.forced, newRow, grownCap, Builtin.nextslicecap, h1, h2, Builtin.firstCells, loadCells, loadCellsFrom, Value.cells]
theorem wp_copy_run_ {P : Program} (w : World) {o : Oper} {a : Act} {K : Act → World → Prop} {Q : Exit → Act → World → Prop} (d s : Operand) (t t' : TypeId)
    (ho : o.op = .call { callee := .builtin .copy, args := #[d, s], argTypes := #[t, t'] }) (v u : Value) (hd : a.eval d = v) (hs : a.eval s = u) {v' : Value} {w' : World}
    (hr : (Builtin.copy_ #[t, t'] o.type #[v, u]).run P w = .ok v' w') (h : K (a.put o.dst v') w') : o.wp P a w K Q := by
  unfold Oper.wp execOp
  simp only [ho, resolve, invoke, builtin, Sem.run_bind, Sem.run_pure, Result.andThen_ok, List.map_toArray, List.map_cons, List.map_nil, hd, hs, hr]
  exact h
theorem wpList_copy_run_ {P : Program} (w : World) {ops : Array Oper} {rest : List Oper} {o : Oper} {a : Act} {Q : Exit → Act → World → Prop} (hgd : o.guard = none) (d s : Operand) (t t' : TypeId)
    (ho : o.op = .call { callee := .builtin .copy, args := #[d, s], argTypes := #[t, t'] }) (v u : Value) (hd : a.eval d = v) (hs : a.eval s = u) {v' : Value} {w' : World}
    (hr : (Builtin.copy_ #[t, t'] o.type #[v, u]).run P w = .ok v' w') (h : wpList P ops Q rest (a.put o.dst v') w') : wpList P ops Q (o :: rest) a w :=
  wpList_plain hgd fun _ hK => wp_copy_run_ w d s t t' ho v u hd hs hr (hK _ _ h)
theorem step_copy_run_ {P : Program} {ops : Array Oper} {o : Oper} {a : Act} {w : World} {K : Act → World → Prop} {Q : Exit → Act → World → Prop} {E : Prop}
    (hg : o.guard = none) (d x : Operand) (dT sT : TypeId) (hop : o.op = Op.call { callee := Callee.builtin Builtin.copy, args := #[d, x], argTypes := #[dT, sT] })
    (v u : Value) (hd : a.eval d = v) (hx : a.eval x = u) {v' : Value} {w' : World} (hr : (Builtin.copy_ #[dT, sT] o.type #[v, u]).run P w = .ok v' w') (hK : K (a.put o.dst v') w') :
    if Region.wanted o (yielded ops a.tmps) = true then Oper.wp P o a w K Q else E := by
  have hw : Region.wanted o (yielded ops a.tmps) = true := by simp [Region.wanted, hg]
  rw [if_pos hw]
  exact wp_copy_run_ w d x dT sT hop v u hd hx hr hK

theorem rs3 {w : World} {g : Nat} {s sa sb : St} {r : List Value} (h : Blk w g 39 (s.cells ++ (sa.cells ++ sb.cells) ++ r).toArray) : RS w (some ⟨g, 0, none⟩) [s, sa, sb] := by
  intro _
  refine ⟨g, 0, rfl, h.lt, fun j x i v hj hv => ?_⟩
  have hi : i < 5 := by have := lt_of_at hv; rw [St.len] at this; exact this
  rw [h.cell]
  have e : (flat St.cells [s, sa, sb]) = s.cells ++ (sa.cells ++ sb.cells) := by simp [flat]
  have h1 := flat_at (enc := St.cells) (k := 5) St.len hj hv
  rw [e] at h1
  have hl := (List.getElem?_eq_some_iff.1 h1).1
  simp only [List.getElem?_toArray, Nat.zero_add]
  rw [List.getElem?_append_left hl]
  exact h1
set_option maxHeartbeats 400000 in
theorem Insert3 (b vb : Nat) (s sa sb : St) (w : World) (hb : Blk w b 39 (sa.cells ++ sb.cells).toArray) (hv : Blk w vb 39 s.cells.toArray) :
    Calls Try.prog 10 #[.slice (some ⟨b, 0, none⟩) 2 2, .int .i64 0, .slice (some ⟨vb, 0, none⟩) 1 1] w fun e w' => ∃ g c, e = .returned (.slice (some ⟨g, 0, none⟩) 3 c) ∧ RS w' (some ⟨g, 0, none⟩) [s, sa, sb] ∧ 3 ≤ c ∧ Below w.heap.size w w' := by
  have HB := Lib.hid hb
  have HV := Lib.hid hv
  obtain ⟨i0, hi, hz0, hz1, hz2⟩ := info_parts info_step
  have hsz : (Try.prog.info? 39).map (·.size) = some 5 := by rw [hi]; simp [hz1]
  obtain ⟨c, hc, hgrow⟩ := run_grow3 w ⟨b, 0, none⟩
  have HG := Lib.hid hgrow
  have HSZ := Lib.hid hsz
  clear hb hv hgrow hi hz0 hz1 hz2 hsz
  obtain ⟨zs, hzs⟩ : ∃ zs : Array Value, zs = Builtin.zeroCells #[.int .i64 0, .int .i64 0, .int .i64 0, .int .i64 0, .int .i64 0] 3 ++ Builtin.zeroCells #[.int .i64 0, .int .i64 0, .int .i64 0, .int .i64 0, .int .i64 0] (c - 3) := ⟨_, rfl⟩
  rw [← hzs] at HG
  have hzl : 15 ≤ zs.size := by rw [hzs, Array.size_append]; have : (Builtin.zeroCells #[.int .i64 0, .int .i64 0, .int .i64 0, .int .i64 0, .int .i64 0] 3 : Array Value).size = 15 := by simp [Builtin.zeroCells]
                                omega
  clear hzs
  go_enter Try.func10, Try.ntmps10
  have K1 := Lib.hid ((Below.refl w.heap.size w).drew.alloc (Nat.le_refl _) (.cells zs 39))
  have Z1 : Hid (Blk (w.drew.alloc (.cells zs 39)) w.heap.size 39 zs) := Blk.new w.drew _ _
  have V1 := Lib.hid (HV.out.below K1.out HV.out.lt)
  have S1 := Lib.hid (HB.out.below K1.out HB.out.lt)
  have C1 := Lib.hid (run_copy_k (P := Try.prog) (w.drew.alloc (.cells zs 39)) 5 40 40 3 39 w.heap.size 0 3 c ⟨vb, 0, none⟩ 1 1 zs 39 s.cells Try.underlying40 HSZ.out Z1.out rfl (fun j v hj => by rw [Addr.add_lit, Nat.zero_add, V1.out.cell]; simpa using hj) (by rw [St.len]; omega) s.one)
  go_wp2_with (first
    | (at_builtin; refine Lib.wpList_append_run _ rfl (.tmp 34) (.tmp 39) 40 3 rfl _ _ rfl rfl _ _ HG.out ?_)
    | (refine wpList_copy_run_ _ rfl (.tmp 43) (.tmp 44) 40 40 rfl _ _ rfl rfl C1.out ?_))
  go_frame
  have B2 := Lib.hid (below_setRow K1.out (Nat.le_refl w.heap.size) (zs.toList.take 0 ++ s.cells ++ zs.toList.drop (0 + s.cells.length)).toArray)
  have Z2 : Hid (Blk ((w.drew.alloc (.cells zs 39)).setRow w.heap.size (zs.toList.take 0 ++ s.cells ++ zs.toList.drop (0 + s.cells.length)).toArray) w.heap.size 39 (zs.toList.take 0 ++ s.cells ++ zs.toList.drop (0 + s.cells.length)).toArray) := setRow_heap _ _ _ _ _ _ Z1.out
  have S2 := Lib.hid (HB.out.below B2.out HB.out.lt)
  obtain ⟨L1, hL1⟩ : ∃ L1, L1 = zs.toList.take 0 ++ s.cells ++ zs.toList.drop (0 + s.cells.length) := ⟨_, rfl⟩
  rw [← hL1] at B2 Z2 S2 ⊢
  have HL1 := Lib.hid hL1
  have hl1 : 15 ≤ L1.length := by rw [hL1]; simp [St.len]; omega
  generalize (w.drew.alloc (.cells zs 39)).setRow w.heap.size L1.toArray = w2 at B2 Z2 S2 ⊢
  clear hL1 K1 Z1 V1 S1 C1 HG
  have C2 := Lib.hid (run_copy_k (P := Try.prog) w2.drew 5 40 40 3 39 w.heap.size 5 2 (c - 1) ⟨b, 0, none⟩ 2 2 L1.toArray 39 (sa.cells ++ sb.cells) Try.underlying40 HSZ.out Z2.out rfl (fun j v hj => by rw [Addr.add_lit, Nat.zero_add, World.cell?_drew, S2.out.cell]; simpa using hj) (by simp [St.len]; omega) (by intro v hv; rcases List.mem_append.1 hv with h | h; exact sa.one v h; exact sb.one v h))
  have hc1 : ¬ c = 1 := by omega
  have hw1 : IntKind.i64.wrap 1 = 1 := by decide
  go_region_law (refine step_copy_run_ rfl (.tmp 50) (.tmp 53) 40 40 rfl (.slice (some ⟨w.heap.size, 5, none⟩) 2 (c - 1)) (.slice (some ⟨b, 0, none⟩) 2 2) (by simp [Act.eval, Act.put]) (by simp [Act.eval, Act.put]) C2.out ?_)
  have B3 := Lib.hid (below_setRow (B2.out.drew) (Nat.le_refl w.heap.size) (L1.take 5 ++ (sa.cells ++ sb.cells) ++ L1.drop (5 + (sa.cells ++ sb.cells).length)).toArray)
  have Z3 : Hid (Blk (w2.drew.setRow w.heap.size (L1.take 5 ++ (sa.cells ++ sb.cells) ++ L1.drop (5 + (sa.cells ++ sb.cells).length)).toArray) w.heap.size 39 (L1.take 5 ++ (sa.cells ++ sb.cells) ++ L1.drop (5 + (sa.cells ++ sb.cells).length)).toArray) := setRow_heap _ _ _ _ _ _ Z2.out
  have R3 := Lib.hid (rs3 (w := w2.drew.setRow w.heap.size (L1.take 5 ++ (sa.cells ++ sb.cells) ++ L1.drop (5 + (sa.cells ++ sb.cells).length)).toArray) (s := s) (sa := sa) (sb := sb) (r := L1.drop (5 + (sa.cells ++ sb.cells).length)) (by
    have h := Z3.out
    have e : L1.take 5 = s.cells := by rw [HL1.out, List.take_zero, List.nil_append, List.take_append_of_le_length (by rw [St.len]; exact Nat.le_refl _), List.take_of_length_le (by rw [St.len]; exact Nat.le_refl _)]
    rw [e] at h
    have e2 : (L1.take 5 ++ (sa.cells ++ sb.cells) ++ L1.drop (5 + (sa.cells ++ sb.cells).length)) = (s.cells ++ (sa.cells ++ sb.cells) ++ L1.drop (5 + (sa.cells ++ sb.cells).length)) := by rw [e]
    rw [e2]
    exact h))
  clear C2 Z2 S2 Z3 HL1
  all_goals
    (try go_frame)
    simp only [List.append_assoc, List.length_append] at B3 R3
    go_wp2_with fail
    go_ret
    exact ⟨_, _, rfl, R3.out, hc, B3.out⟩
end Go.Proofs.Ytioofkhadjaldaa
