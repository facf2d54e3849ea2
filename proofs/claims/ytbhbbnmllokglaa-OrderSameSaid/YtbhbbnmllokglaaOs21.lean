/- The walk of slices.Insert of one step ahead of two. · The walk of act.Steps at a valid world. · The walks of slices.Index, Contains and IsSortedFunc at steps, and of gantkeep4.ActAll. · The walk of gantkeep4.pick; no facts. -/
import Derived.Test.YtbhbbnmllokglaaOs19
import Derived.Lib.AppendZeros
import Derived.Laws.CopyRow
import Derived.Laws.CopyOwn
import Derived.Deep.RegionLaw
import Derived.Test.YtbhbbnmllokglaaOs4
namespace Go.Proofs.Ytbhbbnmllokglaa
open Go.RowKit
set_option linter.unusedVariables false
set_option maxRecDepth 100000

theorem info_step : (Try.prog.info? 79).map (fun i => (i.zero, i.size, i.bytes)) = some (some (.agg #[.int .i64 0, .int .i64 0, .int .i64 0, .int .i64 0, .int .i64 0]), 5, 40) := by kernel_rfl
theorem run_copy_k {P : Program} (w : World) (k : Nat) (dT sT ty elem : TypeId) (g o dLen dCap : Nat) (a : Addr) (sLen sCap : Nat) (cur : Array Value) (t : TypeId) (cs : List Value)
    (hu : P.underlying dT = some (.slice elem)) (hs : (P.info? elem).map (·.size) = some k)
    (hg : w.heap[g]? = some (.cells cur t (0, 0))) (hn : cs.length = Nat.min sLen dLen * k)
    (hsrc : ∀ j v, cs[j]? = some v → w.cell? (a.add j) = some v) (hfit : o + cs.length ≤ cur.size) (h1 : ∀ v ∈ cs, v.oneCell' = true) :
    (Builtin.copy_ #[dT, sT] ty #[.slice (some ⟨g, o, none⟩) dLen dCap, .slice (some a) sLen sCap]).run P w =
      .ok (goInt (Nat.min sLen dLen)) (w.setRow g (cur.toList.take o ++ cs ++ cur.toList.drop (o + cs.length)).toArray) := by
  have hl := run_loadCells_list (P := P) w a cs hsrc
  have hst := run_storeCells_at P g o t cs 0 cur w hg (by simpa using hfit) h1
  cases hq : P.info? elem with
  | none => simp [hq] at hs
  | some i =>
    have hi : i.size = k := by simpa [hq] using hs
    simp [Builtin.copy_, run_underlying hu, Builtin.lenOf, Builtin.firstCells, sizeOf, typeInfo, hq, hi, ← hn, hl, hst]
theorem run_grow3 (w : World) (a : Addr) : ∃ c, 3 ≤ c ∧ (Builtin.append_ #[37, 3] 37 #[.slice (some a) 0 2, .int .i64 3]).run Try.prog w = .ok (.slice (some ⟨w.heap.size, 0, none⟩) 3 c) (w.drew.alloc (.cells (Builtin.zeroCells #[.int .i64 0, .int .i64 0, .int .i64 0, .int .i64 0, .int .i64 0] 3 ++ Builtin.zeroCells #[.int .i64 0, .int .i64 0, .int .i64 0, .int .i64 0, .int .i64 0] (c - 3)) 79)) := by
  obtain ⟨i0, hi, hz0, hz1, hz2⟩ := info_parts info_step
  have ht := Try.underlying37
  have htn := Try.underlying3
  have hw : IntKind.i64.wrap (3 : Int) = 3 := by decide
  refine ⟨grownCap w 3 2 79, ?_, ?_⟩
  · exact grownCap_ge _ _ _ _
  · have h1 : ¬ ((9223372036854775807 : Nat) < max 3 0) := by decide
    have h2 : ¬ ((9223372036854775807 : Int) < max 3 0) := by decide
    simp [Builtin.append_, run_underlying ht, run_underlying htn, sizeOf, typeInfo, zeroValue, hi, hz0, hz1, hz2, asInt, asIntOf, hw, Question.forced, newRow, grownCap, Builtin.nextslicecap, h2, Builtin.firstCells, loadCells, loadCellsFrom, Value.cells]
theorem wp_copy_run_ {P : Program} (w : World) {o : Oper} {a : Act} {K : Act → World → Prop} {Q : Exit → Act → World → Prop} (d s : Operand) (t t' : TypeId)
    (ho : o.op = .call { callee := .builtin .copy, args := #[d, s], argTypes := #[t, t'] }) (v u : Value) (hd : a.eval d = v) (hs : a.eval s = u) {v' : Value} {w' : World}
    (hr : (Builtin.copy_ #[t, t'] o.type #[v, u]).run P w = .ok v' w') (h : K (a.put o.dst v') w') : o.wp P a w K Q := by
  unfold Oper.wp execOp
  simp only [ho, resolve, invoke, builtin, Sem.run_bind, Sem.run_pure, Result.andThen_ok, List.map_toArray, List.map_cons, List.map_nil, hd, hs, hr]
  exact h
theorem wpList_copy_run_ {P : Program} (w : World) {ops : Array Oper} {rest : List Oper} {o : Oper} {a : Act} {Q : Exit → Act → World → Prop} (hgd : o.guard = none) (d s : Operand) (t t' : TypeId)
    (ho : o.op = .call { callee := .builtin .copy, args := #[d, s], argTypes := #[t, t'] }) (v u : Value) (hd : a.eval d = v) (hs : a.eval s = u) {v' : Value} {w' : World}
    (hr : (Builtin.copy_ #[t, t'] o.type #[v, u]).run P w = .ok v' w') (h : wpList P ops Q rest (a.put o.dst v') w') : wpList P ops Q (o :: rest) a w :=
  wpList_plain hgd fun _ hK => wp_copy_run_ w d s t t' ho v u hd hs hr (hK _ _ h)
theorem step_copy_run_ {P : Program} {ops : Array Oper} {o : Oper} {a : Act} {w : World} {K : Act → World → Prop} {Q : Exit → Act → World → Prop} {E : Prop}
    (hg : o.guard = none) (d x : Operand) (dT sT : TypeId) (hop : o.op = Op.call { callee := Callee.builtin Builtin.copy, args := #[d, x], argTypes := #[dT, sT] })
    (v u : Value) (hd : a.eval d = v) (hx : a.eval x = u) {v' : Value} {w' : World} (hr : (Builtin.copy_ #[dT, sT] o.type #[v, u]).run P w = .ok v' w') (hK : K (a.put o.dst v') w') :
    if Region.wanted o (yielded ops a.tmps) = true then Oper.wp P o a w K Q else E := by
  have hw : Region.wanted o (yielded ops a.tmps) = true := by simp [Region.wanted, hg]
  rw [if_pos hw]
  exact wp_copy_run_ w d x dT sT hop v u hd hx hr hK

theorem rs3 {w : World} {g : Nat} {s sa sb : St} {r : List Value} (h : Blk w g 79 (s.cells ++ (sa.cells ++ sb.cells) ++ r).toArray) : RS w (some ⟨g, 0, none⟩) [s, sa, sb] := by
  intro _
  refine ⟨g, 0, rfl, h.lt, fun j x i v hj hv => ?_⟩
  have hi : i < 5 := by have := lt_of_at hv; rw [St.len] at this; exact this
  rw [h.cell]
  have e : (flat St.cells [s, sa, sb]) = s.cells ++ (sa.cells ++ sb.cells) := by simp [flat]
  have h1 := flat_at (enc := St.cells) (k := 5) St.len hj hv
  rw [e] at h1
  have hl := (List.getElem?_eq_some_iff.1 h1).1
  simp only [List.getElem?_toArray, Nat.zero_add]
  rw [List.getElem?_append_left hl]
  exact h1
end Go.Proofs.Ytbhbbnmllokglaa

namespace Go.Proofs.Ytbhbbnmllokglaa
open Go.RowKit
set_option linter.unusedVariables false
set_option maxRecDepth 100000

/-! The steps that are tried -/
def stP (k a p : Nat) : St := ⟨k, a, p, -1, 0⟩
def stS (k a s : Nat) : St := ⟨k, a, -1, s, 0⟩
def armL (np ns k a : Nat) : List St := (List.range np).map (stP k a) ++ (List.range ns).map (stS k a)
def kindL (np ns k na : Nat) : List St := (List.range na).flatMap (armL np ns k)
def allL (np ns na n : Nat) : List St := (List.range n).flatMap fun k => kindL np ns k na
theorem kindL_succ (np ns k na : Nat) : kindL np ns k (na + 1) = kindL np ns k na ++ armL np ns k na := by
  simp [kindL, List.range_succ]
theorem allL_succ (np ns na n : Nat) : allL np ns na (n + 1) = allL np ns na n ++ kindL np ns n na := by
  simp [allL, List.range_succ]
theorem armL_len (np ns k a : Nat) : (armL np ns k a).length = np + ns := by simp [armL]
theorem kindL_len (np ns k : Nat) : ∀ na, (kindL np ns k na).length = na * (np + ns)
  | 0 => by simp [kindL]
  | na + 1 => by rw [kindL_succ, List.length_append, kindL_len np ns k na, armL_len, Nat.add_mul]; omega
theorem allL_len (np ns na : Nat) : ∀ n, (allL np ns na n).length = n * (na * (np + ns))
  | 0 => by simp [allL]
  | n + 1 => by rw [allL_succ, List.length_append, allL_len np ns na n, kindL_len, Nat.add_mul]; omega
theorem kindL_small {np ns k a : Nat} (h1 : np ≤ 6) (h2 : ns ≤ 8) (h3 : a ≤ 4) : (kindL np ns k a).length ≤ 56 := by
  rw [kindL_len]; exact Nat.le_trans (Nat.mul_le_mul h3 (show np + ns ≤ 14 by omega)) (by decide)
theorem allL_small {np ns na n : Nat} (h1 : np ≤ 6) (h2 : ns ≤ 8) (h3 : na ≤ 4) (hn : n ≤ 4) : (allL np ns na n).length ≤ 224 := by
  rw [allL_len]; exact Nat.le_trans (Nat.mul_le_mul hn (Nat.mul_le_mul h3 (show np + ns ≤ 14 by omega))) (by decide)
theorem mem_allL {np ns na n : Nat} {s : St} : s ∈ allL np ns na n ↔ ∃ k < n, ∃ a < na, (∃ p < np, s = stP k a p) ∨ ∃ q < ns, s = stS k a q := by
  simp only [allL, kindL, armL, List.mem_flatMap, List.mem_range, List.mem_append, List.mem_map, eq_comm]
theorem nodup_allL (np ns na n : Nat) : (allL np ns na n).Pairwise (· ≠ ·) := by
  unfold allL
  rw [List.pairwise_flatMap]
  refine ⟨fun k _ => ?_, (List.nodup_range (n := n)).imp fun {k k'} hk => ?_⟩
  · unfold kindL
    rw [List.pairwise_flatMap]
    refine ⟨fun a _ => ?_, (List.nodup_range (n := na)).imp fun {a a'} ha => ?_⟩
    · unfold armL
      rw [List.pairwise_append]
      refine ⟨?_, ?_, ?_⟩
      · exact List.Pairwise.map _ (fun p q h e => h (by simp only [stP, St.mk.injEq] at e; omega)) (List.nodup_range (n := np))
      · exact List.Pairwise.map _ (fun p q h e => h (by simp only [stS, St.mk.injEq] at e; omega)) (List.nodup_range (n := ns))
      · intro s hs t ht e
        obtain ⟨p, _, rfl⟩ := List.mem_map.1 hs
        obtain ⟨q, _, rfl⟩ := List.mem_map.1 ht
        simp only [stP, stS, St.mk.injEq] at e
        omega
    · intro s hs t ht e
      subst e
      unfold armL at hs ht
      simp only [List.mem_append, List.mem_map, List.mem_range] at hs ht
      rcases hs with ⟨p, _, rfl⟩ | ⟨p, _, rfl⟩ <;> rcases ht with ⟨q, _, e⟩ | ⟨q, _, e⟩ <;> simp only [stP, stS, St.mk.injEq] at e <;> omega
  · intro s hs t ht e
    subst e
    unfold kindL armL at hs ht
    simp only [List.mem_flatMap, List.mem_append, List.mem_map, List.mem_range] at hs ht
    obtain ⟨a, _, hs⟩ := hs
    obtain ⟨a', _, ht⟩ := ht
    rcases hs with ⟨p, _, rfl⟩ | ⟨p, _, rfl⟩ <;> rcases ht with ⟨q, _, e⟩ | ⟨q, _, e⟩ <;> simp only [stP, stS, St.mk.injEq] at e <;> omega

/-- The steps that can be done, other than waits, in increasing order. -/
def StepsP (x : AW) (ss : List St) : Prop := ss.Pairwise ltS ∧ ∀ s, s ∈ ss ↔ s.kind ≠ 4 ∧ canP x s = 0
theorem can_all {x : AW} {np ns na : Nat} (h1 : x.place.length = np) (h2 : x.slots = ns) (h3 : x.spot.length = na) {s : St} (h4 : s.kind ≠ 4) (hc : canP x s = 0) : s ∈ allL np ns na 4 := by
  obtain ⟨hf, ha, hp, hs, _⟩ := canP_ok hc
  obtain ⟨k, a, p, q, t⟩ := s
  unfold formP at hf
  dsimp only at hf ha hp hs h4
  rw [mem_allL]
  obtain ⟨a', rfl⟩ := Int.eq_ofNat_of_zero_le hf.2.2.1
  obtain ⟨k', rfl⟩ := Int.eq_ofNat_of_zero_le (show 0 ≤ k by omega)
  refine ⟨k', by omega, a', by omega, ?_⟩
  by_cases hp0 : 0 ≤ p
  · obtain ⟨p', rfl⟩ := Int.eq_ofNat_of_zero_le hp0
    refine .inl ⟨p', by omega, ?_⟩
    simp only [stP, St.mk.injEq, true_and]
    omega
  · obtain ⟨q', rfl⟩ := Int.eq_ofNat_of_zero_le (show 0 ≤ q by omega)
    refine .inr ⟨q', by omega, ?_⟩
    simp only [stS, St.mk.injEq, true_and]
    omega
theorem stepsP_mk {x : AW} {np ns na : Nat} (h1 : x.place.length = np) (h2 : x.slots = ns) (h3 : x.spot.length = na) {gs : List St} (hs : gs.Pairwise fun a b => ¬ ltS b a) (hp : gs.Perm ((allL np ns na 4).filter fun s => !noS x s)) : StepsP x gs := by
  constructor
  · have hnd : gs.Pairwise (· ≠ ·) := (hp.pairwise_iff (fun {a b} h => Ne.symm h)).2 ((nodup_allL np ns na 4).filter _)
    have := hs.and hnd
    refine this.imp ?_
    intro a b ⟨h1, h2⟩
    apply Classical.byContradiction
    intro h3
    exact h2 (ltS_tri h3 h1)
  · intro s
    rw [hp.mem_iff, List.mem_filter]
    unfold noS
    constructor
    · rintro ⟨hm, hc⟩
      have hc' : canP x s = 0 := by simpa using hc
      refine ⟨?_, hc'⟩
      obtain ⟨k, hk, a, _, h⟩ := mem_allL.1 hm
      rcases h with ⟨p, _, rfl⟩ | ⟨p, _, rfl⟩ <;> simp only [stP, stS] <;> omega
    · rintro ⟨h4, hc⟩
      exact ⟨can_all h1 h2 h3 h4 hc, by simp [hc]⟩

/-- A list of steps of the call's own. -/
structure OS (h : Nat) (w0 w : World) (v : Value) (t : Nat) (L : List St) : Prop where
  o : w.ownsRow h 79 5 v t (flat St.cells L)
  l : L.length = t
  B : Below h w0 w
  z : h ≤ w.heap.size
theorem OS.app {h : Nat} {w0 w w' : World} {v v' : Value} {t : Nat} {L : List St} {o : Obj} {s : St} (q : OS h w0 w v t L) (hown : w'.ownsRow h 79 5 v' (t + 1) (flat St.cells L ++ s.cells)) (hg : (w.alloc o).grownBy w' v.ownBlock) : OS h w0 w' v' (t + 1) (L ++ [s]) :=
  ⟨by rw [flat_append, flat_one]; exact hown, by rw [List.length_append, q.l]; rfl, below_append (q.B.alloc q.z o) (q.o.alloc o) hg (Nat.le_trans q.z (by simp)), Nat.le_trans (Nat.le_trans q.z (by simp)) hg.size⟩
theorem OS.cast {h : Nat} {w0 w : World} {v : Value} {t : Nat} {L L' : List St} (q : OS h w0 w v t L) (e : L = L') : OS h w0 w v t L' := e ▸ q

theorem e_part (np ns na k a p : Nat) : (allL np ns na k ++ (kindL np ns k a ++ (List.range p).map (stP k a))) ++ [stP k a p] = allL np ns na k ++ (kindL np ns k a ++ (List.range (p + 1)).map (stP k a)) := by
  simp [List.range_succ]
theorem e_slot (np ns na k a q : Nat) : (allL np ns na k ++ (kindL np ns k a ++ ((List.range np).map (stP k a) ++ (List.range q).map (stS k a)))) ++ [stS k a q] = allL np ns na k ++ (kindL np ns k a ++ ((List.range np).map (stP k a) ++ (List.range (q + 1)).map (stS k a))) := by
  simp [List.range_succ]
theorem e_arm (np ns na k a : Nat) : allL np ns na k ++ (kindL np ns k a ++ ((List.range np).map (stP k a) ++ (List.range ns).map (stS k a))) = allL np ns na k ++ kindL np ns k (a + 1) := by
  rw [kindL_succ]; rfl

set_option maxHeartbeats 8000000 in
theorem Steps_any (x : AW) (A1 A2 A3 : Option Addr) (n1 n3 c1 c2 c3 : Nat) (w : World) (hx : RW4 w x A1 A2 A3 n1 n1 n3 c1 c2 c3) (hv : ValidA x) (p1 : 0 < n1) (p3 : 0 < n3) :
    Calls Try.prog 20 #[.agg #[.int .i64 x.slots, .slice A1 n1 c1, .slice A2 n1 c2, .slice A3 n3 c3]] w fun e w' => ∃ A c ss, e = .returned (.slice A ss.length c) ∧ StepsP x ss ∧ ss.length ≤ 224 ∧ w'.ownsRow (w.heap.size + 1) 79 5 (.slice A ss.length c) ss.length (flat St.cells ss) ∧ Below w.heap.size w w' := by
  have KB := Lib.hid ((Below.refl w.heap.size w).alloc (Nat.le_refl _) (.cells #[.int .i64 x.slots, .slice A1 n1 c1, .slice A2 n1 c2, .slice A3 n3 c3] 25))
  have C1 : Hid (CW (w.alloc (.cells #[.int .i64 x.slots, .slice A1 n1 c1, .slice A2 n1 c2, .slice A3 n3 c3] 25)) w.heap.size x A1 A2 A3 n1 n3 c1 c2 c3) := ⟨Blk.new _ _ _, hx.below KB.out, hv⟩
  have HS : Hid ((w.alloc (.cells #[.int .i64 x.slots, .slice A1 n1 c1, .slice A2 n1 c2, .slice A3 n3 c3] 25)).heap.size = w.heap.size + 1) := by unfold Hid; simp
  have b1 : n1 ≤ 6 := by have := hv.p6; rw [hx.l1] at this; exact this
  have b3 : n3 ≤ 4 := by have := hv.a4; rw [hx.l3] at this; exact this
  obtain ⟨ns, hns⟩ := Int.eq_ofNat_of_zero_le hv.s0
  have b2 : ns ≤ 8 := by have := hv.s8; omega
  have HNS := Lib.hid hns
  have L1 := Lib.hid hx.l1
  have L3 := Lib.hid hx.l3
  clear hns hx hv
  obtain ⟨t0, t1, t2, t3⟩ := blk4 C1.out.T
  go_enter Try.func20, Try.ntmps20
  go_wp2_with fail
  generalize hw1 : w.alloc (.cells #[.int .i64 x.slots, .slice A1 n1 c1, .slice A2 n1 c2, .slice A3 n3 c3] 25) = w1 at KB C1 HS t0 t1 t2 t3 ⊢
  clear hw1 t0 t1 t2 t3
  refine (Check_ok x A1 A2 A3 n1 n1 n3 c1 c2 c3 _ C1.out.R C1.out.V).mono ?_
  rintro e w2 ⟨rfl, hb2⟩
  have Q0 : Hid (OS w1.heap.size w1 w2 (.slice none 0 0) 0 (allL n1 ns n3 0)) := ⟨World.ownsRow_nil _ _ _ _, rfl, hb2, hb2.size⟩
  clear hb2
  obtain ⟨j0, ji, jz0, jz1, jz2⟩ := info_parts info_step
  go_wp2_with fail
  go_loopw [3, 4] (fun v kd wr => ∃ (k : Nat) (u : Value) (t : Nat), u = v ∧ kd = .int .i64 k ∧ k ≤ 4 ∧ Hid (OS w1.heap.size w1 wr u t (allL n1 ns n3 k))) (fun _ kd _ => 4 - (intOf kd).toNat)
  case atStart => exact ⟨0, _, 0, rfl, rfl, by omega, Q0⟩
  case round =>
    clear Q0
    obtain ⟨k, v, t, rfl, rfl, hk, Q1⟩ := hrel
    by_cases hk4 : k < 4
    · have t3 := (C1.out.T.below Q1.out.B C1.out.T.lt).cell 3
      go_wp2_with fail
      clear t3
      obtain ⟨wo, hwo⟩ : ∃ wo : World, wo = wr := ⟨_, rfl⟩
      subst hwo
      have Q2 : Hid (OS w1.heap.size w1 wo v t (allL n1 ns n3 k ++ kindL n1 ns k 0)) := Q1.out.cast (by simp [kindL])
      clear Q1
      go_loopw [3, 18] (fun v ai wr => ∃ (a : Nat) (u : Value) (t : Nat), u = v ∧ ai = .int .i64 a ∧ a ≤ n3 ∧ Hid (OS w1.heap.size w1 wr u t (allL n1 ns n3 k ++ kindL n1 ns k a))) (fun _ ai _ => n3 - (intOf ai).toNat)
      case atStart => exact ⟨0, _, t, rfl, rfl, by omega, Q2⟩
      case round =>
        clear Q2
        obtain ⟨a, v, t, rfl, rfl, ha, Q2⟩ := hrel
        by_cases hal : a < n3
        · have t1 := (C1.out.T.below Q2.out.B C1.out.T.lt).cell 1
          go_wp2_with fail
          clear t1
          obtain ⟨wo, hwo⟩ : ∃ wo : World, wo = wr := ⟨_, rfl⟩
          subst hwo
          have Q3 : Hid (OS w1.heap.size w1 wo v t (allL n1 ns n3 k ++ (kindL n1 ns k a ++ (List.range 0).map (stP k a)))) := Q2.out.cast (by simp)
          clear Q2
          go_loopw [3, 6, 24] (fun v _ ai wr => ∃ (p : Nat) (u : Value) (t : Nat), u = v ∧ ai = .int .i64 p ∧ p ≤ n1 ∧ Hid (OS w1.heap.size w1 wr u t (allL n1 ns n3 k ++ (kindL n1 ns k a ++ (List.range p).map (stP k a))))) (fun _ _ ai _ => n1 - (intOf ai).toNat)
          case atStart => exact ⟨0, _, t, rfl, rfl, by omega, Q3⟩
          case round =>
            clear Q3
            obtain ⟨p, v, t, rfl, rfl, hp, Q3⟩ := hrel
            have ht : t ≤ 400 := by
              have h1 := Q3.out.l
              have h2 := allL_small (n := k) b1 b2 b3 (by omega)
              have h3 := kindL_small (k := k) (a := a) b1 b2 (by omega)
              simp only [List.length_append, List.length_map, List.length_range] at h1
              omega
            by_cases hpl : p < n1
            · have S5 := Lib.hid (Src.new (m := 1) (c := 1) (size := 5) (Blk.new wr 79 #[.int .i64 k, .int .i64 a, .int .i64 p, .int .i64 (-1), .int .i64 0]) rfl)
              have N5 : Hid (∀ y ∈ (#[.int .i64 k, .int .i64 a, .int .i64 p, .int .i64 (-1), .int .i64 0] : Array Value).toList, y.oneCell' = true) := (stP k a p).one
              have O5 := Lib.hid (Q3.out.o.alloc (.cells #[.int .i64 k, .int .i64 a, .int .i64 p, .int .i64 (-1), .int .i64 0] 79))
              have Z5 : Hid (w1.heap.size ≤ (wr.alloc (.cells #[.int .i64 k, .int .i64 a, .int .i64 p, .int .i64 (-1), .int .i64 0] 79)).heap.size) := Nat.le_trans Q3.out.B.size (by simp)
              go_wp2_with (at_builtin; refine wpList_append_src _ rfl (.tmp 27) (.tmp 32) 37 rfl w1.heap.size 79 j0 _ 5 40 Try.underlying37 ji jz0 jz1 jz2 rfl (by decide) v t _ rfl O5.out 1 _ _ rfl S5.out N5.out (by unfold maxLen; omega) (by omega) Z5.out ?_; intro v7 w7 hown7 hg7; have Q7 := Lib.hid ((OS.app (s := stP k a p) Q3.out hown7 hg7).cast (e_part n1 ns n3 k a p)); clear hown7 hg7)
              go_roundw
              case rel => exact ⟨v7, .int .i64 p, .int .i64 (p + 1), ⟨p + 1, by go_num, by omega, _, Q7⟩, rfl, rfl, rfl⟩
              case measure => simp [intOf]; omega
            · have hpn : p = n1 := by omega
              subst hpn
              have t0 := (C1.out.T.below Q3.out.B C1.out.T.lt).cell 0
              rw [HNS.out] at t0
              go_wp2_with fail
              clear t0
              obtain ⟨wo, hwo⟩ : ∃ wo : World, wo = wr := ⟨_, rfl⟩
              subst hwo
              have Q4 : Hid (OS w1.heap.size w1 wo v t (allL p ns n3 k ++ (kindL p ns k a ++ ((List.range p).map (stP k a) ++ (List.range 0).map (stS k a))))) := Q3.out.cast (by simp)
              clear Q3
              go_loopw [3, 7, 37] (fun v _ ai wr => ∃ (q : Nat) (u : Value) (t : Nat), u = v ∧ ai = .int .i64 q ∧ q ≤ ns ∧ Hid (OS w1.heap.size w1 wr u t (allL p ns n3 k ++ (kindL p ns k a ++ ((List.range p).map (stP k a) ++ (List.range q).map (stS k a)))))) (fun _ _ ai _ => ns - (intOf ai).toNat)
              case atStart => exact ⟨0, _, t, rfl, rfl, by omega, Q4⟩
              case round =>
                clear Q4
                obtain ⟨q, v, t, rfl, rfl, hq, Q4⟩ := hrel
                have ht : t ≤ 400 := by
                  have h1 := Q4.out.l
                  have h2 := allL_small (n := k) b1 b2 b3 (by omega)
                  have h3 := kindL_small (k := k) (a := a) b1 b2 (by omega)
                  simp only [List.length_append, List.length_map, List.length_range] at h1
                  omega
                by_cases hql : q < ns
                · have S5 := Lib.hid (Src.new (m := 1) (c := 1) (size := 5) (Blk.new wr 79 #[.int .i64 k, .int .i64 a, .int .i64 (-1), .int .i64 q, .int .i64 0]) rfl)
                  have N5 : Hid (∀ y ∈ (#[.int .i64 k, .int .i64 a, .int .i64 (-1), .int .i64 q, .int .i64 0] : Array Value).toList, y.oneCell' = true) := (stS k a q).one
                  have O5 := Lib.hid (Q4.out.o.alloc (.cells #[.int .i64 k, .int .i64 a, .int .i64 (-1), .int .i64 q, .int .i64 0] 79))
                  have Z5 : Hid (w1.heap.size ≤ (wr.alloc (.cells #[.int .i64 k, .int .i64 a, .int .i64 (-1), .int .i64 q, .int .i64 0] 79)).heap.size) := Nat.le_trans Q4.out.B.size (by simp)
                  go_wp2_with (at_builtin; refine wpList_append_src _ rfl (.tmp 40) (.tmp 45) 37 rfl w1.heap.size 79 j0 _ 5 40 Try.underlying37 ji jz0 jz1 jz2 rfl (by decide) v t _ rfl O5.out 1 _ _ rfl S5.out N5.out (by unfold maxLen; omega) (by omega) Z5.out ?_; intro v7 w7 hown7 hg7; have Q7 := Lib.hid ((OS.app (s := stS k a q) Q4.out hown7 hg7).cast (e_slot p ns n3 k a q)); clear hown7 hg7)
                  go_roundw
                  case rel => exact ⟨v7, .int .i64 q, .int .i64 (q + 1), ⟨q + 1, by go_num, by omega, _, Q7⟩, rfl, rfl, rfl⟩
                  case measure => simp [intOf]; omega
                · have hqn : q = ns := by omega
                  subst hqn
                  have Q5 := Lib.hid (Q4.out.cast (e_arm p q n3 k a))
                  clear Q4
                  go_wp2_with fail
                  go_roundw
                  case rel => exact ⟨a + 1, _, t, rfl, by go_num, by omega, Q5⟩
                  case measure => simp [intOf]; omega
        · have han : a = n3 := by omega
          subst han
          have Q3 : Hid (OS w1.heap.size w1 wr v t (allL n1 ns a (k + 1))) := Q2.out.cast (by rw [allL_succ])
          clear Q2
          go_wp2_with fail
          go_roundw
          case rel => exact ⟨k + 1, _, t, rfl, by go_num, by omega, Q3⟩
          case measure => simp [intOf]; omega
    · have hkn : k = 4 := by omega
      subst hkn
      have hl4 := allL_len n1 ns n3 4
      have hsm := allL_small (n := 4) b1 b2 b3 (by omega)
      have hpos : 0 < t := by
        rw [← Q1.out.l, hl4]
        exact Nat.mul_pos (by omega) (Nat.mul_pos p3 (by omega))
      have htb : t ≤ 224 := by rw [← Q1.out.l]; exact hsm
      clear hl4 hsm
      go_wp2_with fail
      refine (deleteS_any w1 w.heap.size x A1 A2 A3 n1 n3 c1 c2 c3 C1.out v t (allL n1 ns n3 4) _ Q1.out.B Q1.out.o Q1.out.l hpos (by omega)).mono ?_
      rintro e w3 ⟨A, c, rfl, ho3, hb3⟩
      have hfl : ((allL n1 ns n3 4).filter fun s => !noS x s).length ≤ 224 := Nat.le_trans (List.length_filter_le _ _) (by rw [Q1.out.l]; exact htb)
      have HF : Hid (∃ F : List St, F = (allL n1 ns n3 4).filter fun s => !noS x s) := ⟨_, rfl⟩
      obtain ⟨F, hF⟩ := HF.out
      rw [← hF] at ho3 hfl
      simp only [← hF]
      have HFF := Lib.hid hF
      have O3 := Lib.hid ho3
      have B3 := Lib.hid hb3
      clear hF HF ho3 hb3 Q1
      go_wp2_with fail
      refine (sortS_any w1.heap.size _ F.length F _ O3.out rfl (by omega) B3.out.size).mono ?_
      rintro e w4 ⟨rfl, gs, hs, hp, hl, ho4, hb4⟩
      have P4 : Hid (StepsP x gs) := stepsP_mk L1.out HNS.out L3.out hs (HFF.out ▸ hp)
      have O4 : Hid (w4.ownsRow (w.heap.size + 1) 79 5 (.slice A F.length c) F.length (flat St.cells gs)) := by rw [← HS.out]; exact ho4
      have B4 := Lib.hid (KB.out.trans ((B3.out.trans hb4).mono (by rw [HS.out]; omega)))
      have HL := Lib.hid hl
      clear hs hp ho4 hb4 hl
      go_wp2_with fail
      go_ret
      exact ⟨A, c, gs, by rw [HL.out]; rfl, P4.out, by rw [HL.out]; exact hfl, by rw [HL.out]; exact O4.out, B4.out⟩
end Go.Proofs.Ytbhbbnmllokglaa

namespace Go.Proofs.Ytbhbbnmllokglaa
open Go.RowKit
set_option linter.unusedVariables false
set_option maxRecDepth 100000

abbrev St.v (s : St) : Value := .agg #[.int .i64 s.kind, .int .i64 s.arm, .int .i64 s.part, .int .i64 s.slot, .int .i64 s.ticks]
theorem eqS_run (x y : St) (w : World) : Sem.run Try.prog (binOp .eql 79 x.v y.v) w = .ok (.bool (decide (x = y))) w := by
  have u3 := Try.underlying3
  have a3 := Try.isAgg3
  have z3 := Try.sizeOf3
  have hS : Try.prog.underlying 79 = some (.struct (Try.prog.fieldsOf 79)) := by kernel_rfl
  have hp : Try.prog.stoodInHeld 79 = false := by kernel_rfl
  rw [run_eql_struct, show (10000 : Nat) = 9999 + 1 from rfl, run_equalIn_agg w 9999 79 _ _ hS hp]
  simp only [Program.fieldsOf, Try.underlying79]
  go_simp
  obtain ⟨x1, x2, x3, x4, x5⟩ := x
  obtain ⟨y1, y2, y3, y4, y5⟩ := y
  by_cases h1 : x1 = y1 <;> by_cases h2 : x2 = y2 <;> by_cases h3 : x3 = y3 <;> by_cases h4 : x4 = y4 <;> by_cases h5 : x5 = y5 <;> simp [h1, h2, h3, h4, h5]

theorem Compare_r (f g : St) (r : Int) (w : World) (hr : Hid (cmpS f g = r)) :
    Calls Try.prog 37 #[.agg #[.int .i64 f.kind, .int .i64 f.arm, .int .i64 f.part, .int .i64 f.slot, .int .i64 f.ticks], .agg #[.int .i64 g.kind, .int .i64 g.arm, .int .i64 g.part, .int .i64 g.slot, .int .i64 g.ticks]] w fun e w' => e = .returned (.int .i64 r) ∧ Below w.heap.size w w' :=
  (CompareS_any f g w).mono fun e w' h => by
    obtain ⟨h1, q, os, h2⟩ := h
    rw [h1, h2, hr.out]
    exact ⟨rfl, ⟨rfl, rfl, rfl, by rw [Sort.size_grow]; exact Nat.le_add_right _ _, fun k hk => by rw [Sort.heap_grow_old _ _ (show k < (w.drewN q).heap.size from hk)]; rfl⟩⟩
end Go.Proofs.Ytbhbbnmllokglaa

namespace Go.Proofs.Ytbhbbnmllokglaa
open Go.RowKit
set_option linter.unusedVariables false
set_option maxRecDepth 100000

theorem below_qS (x n q : Int) (w : World) (hn : 0 < n) (h1 : -9223372036854775808 ≤ x) (h2 : x ≤ 9223372036854775807) (h3 : n ≤ 9223372036854775807) (hq : Hid (x % n = q)) :
    Calls Try.prog 10 #[.int .i64 x, .int .i64 n] w fun e w' => e = .returned (.int .i64 q) ∧ w = w' := hq.out ▸ below_any x n w hn h1 h2 h3
/-- The step that pick gives. -/
def Picked (ss : List St) (x : Int) (s : St) : Prop := (ss = [] ∧ s = ⟨0, 0, 0, 0, 0⟩) ∨ ∃ k : Nat, (k : Int) = x % ss.length ∧ ss[k]? = some s
theorem Picked.mem {ss : List St} {x : Int} {s : St} (h : Picked ss x s) (hs : s ≠ ⟨0, 0, 0, 0, 0⟩) : s ∈ ss := by
  rcases h with ⟨_, h⟩ | ⟨k, _, h⟩
  · exact absurd h hs
  · exact List.mem_of_getElem? h
set_option maxHeartbeats 2000000 in
theorem pick_any (A : Option Addr) (c : Nat) (ss : List St) (x : Int) (w : World) (hR : RS w A ss) (hm : ss.length ≤ 1000) (hx1 : -9223372036854775808 ≤ x) (hx2 : x ≤ 9223372036854775807) :
    Calls Try.prog 19 #[.slice A ss.length c, .int .i64 x] w fun e w' => ∃ s : St, e = .returned (.agg #[.int .i64 s.kind, .int .i64 s.arm, .int .i64 s.part, .int .i64 s.slot, .int .i64 s.ticks]) ∧ Picked ss x s ∧ Below w.heap.size w w' := by
  have R0 := Lib.hid hR
  clear hR
  rcases Nat.eq_zero_or_pos ss.length with h0 | h0
  · have hss : ss = [] := List.eq_nil_of_length_eq_zero h0
    subst hss
    have Z0 := Lib.hid (Blk.new w 79 #[.int .i64 0, .int .i64 0, .int .i64 0, .int .i64 0, .int .i64 0])
    clear h0
    go_enter Try.func19, Try.ntmps19
    go_wp2_with fail
    obtain ⟨z0, z1, z2, z3, z4⟩ := blk5 Z0.out
    exact bodyPost_ret (v := .agg #[.int .i64 0, .int .i64 0, .int .i64 0, .int .i64 0, .int .i64 0]) (by simp [results, Try.results19, go_sem, z0, z1, z2, z3, z4]) rfl ⟨⟨0, 0, 0, 0, 0⟩, rfl, .inl ⟨rfl, rfl⟩, (Below.refl _ _).alloc (Nat.le_refl _) _⟩
  · obtain ⟨q, hq⟩ : ∃ q, x % (ss.length : Int) = q := ⟨_, rfl⟩
    have hq0 : 0 ≤ q := by rw [← hq]; exact Int.emod_nonneg _ (by omega)
    have hq1 : q < ss.length := by rw [← hq]; exact Int.emod_lt_of_pos _ (by omega)
    have HQ := Lib.hid hq
    clear hq
    obtain ⟨k, rfl⟩ := Int.eq_ofNat_of_zero_le hq0
    have hk : k < ss.length := by omega
    obtain ⟨s, hs⟩ := some_at hk
    have KB := Lib.hid ((Below.refl w.heap.size w).alloc (Nat.le_refl _) (.cells #[.int .i64 0, .int .i64 0, .int .i64 0, .int .i64 0, .int .i64 0] 79))
    have KC := Lib.hid ((Below.refl w.heap.size w).alloc (Nat.le_refl _) (.cells #[.int .i64 s.kind, .int .i64 s.arm, .int .i64 s.part, .int .i64 s.slot, .int .i64 s.ticks] 79))
    have Z0 := Lib.hid (Blk.new w 79 #[.int .i64 s.kind, .int .i64 s.arm, .int .i64 s.part, .int .i64 s.slot, .int .i64 s.ticks])
    obtain ⟨b, o, rfl, hb, c0, c1, c2, c3, c4⟩ := RS.at (RK.below R0.out KB.out) hs
    have HS := Lib.hid hs
    have hn0 : ((ss.length : Int) == 0) = false := by rw [beq_eq_false_iff_ne]; omega
    clear hs hq0 hq1 R0
    go_enter Try.func19, Try.ntmps19
    go_wp2_with fail
    refine (below_qS x ss.length k _ (by omega) hx1 hx2 (by omega) HQ).mono ?_
    rintro e w' ⟨rfl, rfl⟩
    go_wp2_with fail
    obtain ⟨z0, z1, z2, z3, z4⟩ := blk5 Z0.out
    exact bodyPost_ret (v := .agg #[.int .i64 s.kind, .int .i64 s.arm, .int .i64 s.part, .int .i64 s.slot, .int .i64 s.ticks]) (by simp [results, Try.results19, go_sem, z0, z1, z2, z3, z4]) rfl ⟨s, rfl, .inr ⟨k, HQ.out.symm, HS.out⟩, KC.out⟩
end Go.Proofs.Ytbhbbnmllokglaa
