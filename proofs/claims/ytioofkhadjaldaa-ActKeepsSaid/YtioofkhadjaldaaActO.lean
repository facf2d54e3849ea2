/- The walk of act.Steps at a valid world. -/
import Derived.Test.YtioofkhadjaldaaActN
import Derived.Test.YtioofkhadjaldaaIns
namespace Go.Proofs.Ytioofkhadjaldaa
open Go.RowKit
set_option linter.unusedVariables false
set_option maxRecDepth 100000

/-! The steps that are tried -/
def stP (k a p : Nat) : St := ⟨k, a, p, -1, 0⟩
def stS (k a s : Nat) : St := ⟨k, a, -1, s, 0⟩
def armL (np ns k a : Nat) : List St := (List.range np).map (stP k a) ++ (List.range ns).map (stS k a)
def kindL (np ns k na : Nat) : List St := (List.range na).flatMap (armL np ns k)
def allL (np ns na n : Nat) : List St := (List.range n).flatMap fun k => kindL np ns k na
theorem kindL_succ (np ns k na : Nat) : kindL np ns k (na + 1) = kindL np ns k na ++ armL np ns k na := by
  simp [kindL, List.range_succ]
theorem allL_succ (np ns na n : Nat) : allL np ns na (n + 1) = allL np ns na n ++ kindL np ns n na := by
  simp [allL, List.range_succ]
theorem armL_len (np ns k a : Nat) : (armL np ns k a).length = np + ns := by simp [armL]
theorem kindL_len (np ns k : Nat) : ∀ na, (kindL np ns k na).length = na * (np + ns)
  | 0 => by simp [kindL]
  | na + 1 => by rw [kindL_succ, List.length_append, kindL_len np ns k na, armL_len, Nat.add_mul]; omega
theorem allL_len (np ns na : Nat) : ∀ n, (allL np ns na n).length = n * (na * (np + ns))
  | 0 => by simp [allL]
  | n + 1 => by rw [allL_succ, List.length_append, allL_len np ns na n, kindL_len, Nat.add_mul]; omega
theorem kindL_small {np ns k a : Nat} (h1 : np ≤ 6) (h2 : ns ≤ 8) (h3 : a ≤ 4) : (kindL np ns k a).length ≤ 56 := by
  rw [kindL_len]; exact Nat.le_trans (Nat.mul_le_mul h3 (show np + ns ≤ 14 by omega)) (by decide)
theorem allL_small {np ns na n : Nat} (h1 : np ≤ 6) (h2 : ns ≤ 8) (h3 : na ≤ 4) (hn : n ≤ 4) : (allL np ns na n).length ≤ 224 := by
  rw [allL_len]; exact Nat.le_trans (Nat.mul_le_mul hn (Nat.mul_le_mul h3 (show np + ns ≤ 14 by omega))) (by decide)
theorem mem_allL {np ns na n : Nat} {s : St} : s ∈ allL np ns na n ↔ ∃ k < n, ∃ a < na, (∃ p < np, s = stP k a p) ∨ ∃ q < ns, s = stS k a q := by
  simp only [allL, kindL, armL, List.mem_flatMap, List.mem_range, List.mem_append, List.mem_map, eq_comm]
theorem nodup_allL (np ns na n : Nat) : (allL np ns na n).Pairwise (· ≠ ·) := by
  unfold allL
  rw [List.pairwise_flatMap]
  refine ⟨fun k _ => ?_, (List.nodup_range (n := n)).imp fun {k k'} hk => ?_⟩
  · unfold kindL
    rw [List.pairwise_flatMap]
    refine ⟨fun a _ => ?_, (List.nodup_range (n := na)).imp fun {a a'} ha => ?_⟩
    · unfold armL
      rw [List.pairwise_append]
      refine ⟨?_, ?_, ?_⟩
      · exact List.Pairwise.map _ (fun p q h e => h (by simp only [stP, St.mk.injEq] at e; omega)) (List.nodup_range (n := np))
      · exact List.Pairwise.map _ (fun p q h e => h (by simp only [stS, St.mk.injEq] at e; omega)) (List.nodup_range (n := ns))
      · intro s hs t ht e
        obtain ⟨p, _, rfl⟩ := List.mem_map.1 hs
        obtain ⟨q, _, rfl⟩ := List.mem_map.1 ht
        simp only [stP, stS, St.mk.injEq] at e
        omega
    · intro s hs t ht e
      subst e
      unfold armL at hs ht
      simp only [List.mem_append, List.mem_map, List.mem_range] at hs ht
      rcases hs with ⟨p, _, rfl⟩ | ⟨p, _, rfl⟩ <;> rcases ht with ⟨q, _, e⟩ | ⟨q, _, e⟩ <;> simp only [stP, stS, St.mk.injEq] at e <;> omega
  · intro s hs t ht e
    subst e
    unfold kindL armL at hs ht
    simp only [List.mem_flatMap, List.mem_append, List.mem_map, List.mem_range] at hs ht
    obtain ⟨a, _, hs⟩ := hs
    obtain ⟨a', _, ht⟩ := ht
    rcases hs with ⟨p, _, rfl⟩ | ⟨p, _, rfl⟩ <;> rcases ht with ⟨q, _, e⟩ | ⟨q, _, e⟩ <;> simp only [stP, stS, St.mk.injEq] at e <;> omega

/-- The steps that can be done, other than waits, in increasing order. -/
def StepsP (x : AW) (ss : List St) : Prop := ss.Pairwise ltS ∧ ∀ s, s ∈ ss ↔ s.kind ≠ 4 ∧ canP x s = 0
theorem can_all {x : AW} {np ns na : Nat} (h1 : x.place.length = np) (h2 : x.slots = ns) (h3 : x.spot.length = na) {s : St} (h4 : s.kind ≠ 4) (hc : canP x s = 0) : s ∈ allL np ns na 4 := by
  obtain ⟨hf, ha, hp, hs, _⟩ := canP_ok hc
  obtain ⟨k, a, p, q, t⟩ := s
  unfold formP at hf
  dsimp only at hf ha hp hs h4
  rw [mem_allL]
  obtain ⟨a', rfl⟩ := Int.eq_ofNat_of_zero_le hf.2.2.1
  obtain ⟨k', rfl⟩ := Int.eq_ofNat_of_zero_le (show 0 ≤ k by omega)
  refine ⟨k', by omega, a', by omega, ?_⟩
  by_cases hp0 : 0 ≤ p
  · obtain ⟨p', rfl⟩ := Int.eq_ofNat_of_zero_le hp0
    refine .inl ⟨p', by omega, ?_⟩
    simp only [stP, St.mk.injEq, true_and]
    omega
  · obtain ⟨q', rfl⟩ := Int.eq_ofNat_of_zero_le (show 0 ≤ q by omega)
    refine .inr ⟨q', by omega, ?_⟩
    simp only [stS, St.mk.injEq, true_and]
    omega
theorem stepsP_mk {x : AW} {np ns na : Nat} (h1 : x.place.length = np) (h2 : x.slots = ns) (h3 : x.spot.length = na) {gs : List St} (hs : gs.Pairwise fun a b => ¬ ltS b a) (hp : gs.Perm ((allL np ns na 4).filter fun s => !noS x s)) : StepsP x gs := by
  constructor
  · have hnd : gs.Pairwise (· ≠ ·) := (hp.pairwise_iff (fun {a b} h => Ne.symm h)).2 ((nodup_allL np ns na 4).filter _)
    have := hs.and hnd
    refine this.imp ?_
    intro a b ⟨h1, h2⟩
    apply Classical.byContradiction
    intro h3
    exact h2 (ltS_tri h3 h1)
  · intro s
    rw [hp.mem_iff, List.mem_filter]
    unfold noS
    constructor
    · rintro ⟨hm, hc⟩
      have hc' : canP x s = 0 := by simpa using hc
      refine ⟨?_, hc'⟩
      obtain ⟨k, hk, a, _, h⟩ := mem_allL.1 hm
      rcases h with ⟨p, _, rfl⟩ | ⟨p, _, rfl⟩ <;> simp only [stP, stS] <;> omega
    · rintro ⟨h4, hc⟩
      exact ⟨can_all h1 h2 h3 h4 hc, by simp [hc]⟩

/-- A list of steps of the call's own. -/
structure OS (h : Nat) (w0 w : World) (v : Value) (t : Nat) (L : List St) : Prop where
  o : w.ownsRow h 39 5 v t (flat St.cells L)
  l : L.length = t
  B : Below h w0 w
  z : h ≤ w.heap.size
theorem OS.app {h : Nat} {w0 w w' : World} {v v' : Value} {t : Nat} {L : List St} {o : Obj} {s : St} (q : OS h w0 w v t L) (hown : w'.ownsRow h 39 5 v' (t + 1) (flat St.cells L ++ s.cells)) (hg : (w.alloc o).grownBy w' v.ownBlock) : OS h w0 w' v' (t + 1) (L ++ [s]) :=
  ⟨by rw [flat_append, flat_one]; exact hown, by rw [List.length_append, q.l]; rfl, below_append (q.B.alloc q.z o) (q.o.alloc o) hg (Nat.le_trans q.z (by simp)), Nat.le_trans (Nat.le_trans q.z (by simp)) hg.size⟩
theorem OS.cast {h : Nat} {w0 w : World} {v : Value} {t : Nat} {L L' : List St} (q : OS h w0 w v t L) (e : L = L') : OS h w0 w v t L' := e ▸ q

theorem e_part (np ns na k a p : Nat) : (allL np ns na k ++ (kindL np ns k a ++ (List.range p).map (stP k a))) ++ [stP k a p] = allL np ns na k ++ (kindL np ns k a ++ (List.range (p + 1)).map (stP k a)) := by
  simp [List.range_succ]
theorem e_slot (np ns na k a q : Nat) : (allL np ns na k ++ (kindL np ns k a ++ ((List.range np).map (stP k a) ++ (List.range q).map (stS k a)))) ++ [stS k a q] = allL np ns na k ++ (kindL np ns k a ++ ((List.range np).map (stP k a) ++ (List.range (q + 1)).map (stS k a))) := by
  simp [List.range_succ]
theorem e_arm (np ns na k a : Nat) : allL np ns na k ++ (kindL np ns k a ++ ((List.range np).map (stP k a) ++ (List.range ns).map (stS k a))) = allL np ns na k ++ kindL np ns k (a + 1) := by
  rw [kindL_succ]; rfl

set_option maxHeartbeats 8000000 in
theorem Steps_any (x : AW) (A1 A2 A3 : Option Addr) (n1 n3 c1 c2 c3 : Nat) (w : World) (hx : RW4 w x A1 A2 A3 n1 n1 n3 c1 c2 c3) (hv : ValidA x) (p1 : 0 < n1) (p3 : 0 < n3) :
    Calls Try.prog 16 #[.agg #[.int .i64 x.slots, .slice A1 n1 c1, .slice A2 n1 c2, .slice A3 n3 c3]] w fun e w' => ∃ A c ss, e = .returned (.slice A ss.length c) ∧ StepsP x ss ∧ ss.length ≤ 224 ∧ w'.ownsRow (w.heap.size + 1) 39 5 (.slice A ss.length c) ss.length (flat St.cells ss) ∧ Below w.heap.size w w' := by
  have KB := Lib.hid ((Below.refl w.heap.size w).alloc (Nat.le_refl _) (.cells #[.int .i64 x.slots, .slice A1 n1 c1, .slice A2 n1 c2, .slice A3 n3 c3] 25))
  have C1 : Hid (CW (w.alloc (.cells #[.int .i64 x.slots, .slice A1 n1 c1, .slice A2 n1 c2, .slice A3 n3 c3] 25)) w.heap.size x A1 A2 A3 n1 n3 c1 c2 c3) := ⟨Blk.new _ _ _, hx.below KB.out, hv⟩
  have HS : Hid ((w.alloc (.cells #[.int .i64 x.slots, .slice A1 n1 c1, .slice A2 n1 c2, .slice A3 n3 c3] 25)).heap.size = w.heap.size + 1) := by unfold Hid; simp
  have b1 : n1 ≤ 6 := by have := hv.p6; rw [hx.l1] at this; exact this
  have b3 : n3 ≤ 4 := by have := hv.a4; rw [hx.l3] at this; exact this
  obtain ⟨ns, hns⟩ := Int.eq_ofNat_of_zero_le hv.s0
  have b2 : ns ≤ 8 := by have := hv.s8; omega
  have HNS := Lib.hid hns
  have L1 := Lib.hid hx.l1
  have L3 := Lib.hid hx.l3
  clear hns hx hv
  obtain ⟨t0, t1, t2, t3⟩ := blk4 C1.out.T
  go_enter Try.func16, Try.ntmps16
  go_wp2_with fail
  generalize hw1 : w.alloc (.cells #[.int .i64 x.slots, .slice A1 n1 c1, .slice A2 n1 c2, .slice A3 n3 c3] 25) = w1 at KB C1 HS t0 t1 t2 t3 ⊢
  clear hw1 t0 t1 t2 t3
  refine (Check_ok x A1 A2 A3 n1 n1 n3 c1 c2 c3 _ C1.out.R C1.out.V).mono ?_
  rintro e w2 ⟨rfl, hb2⟩
  have Q0 : Hid (OS w1.heap.size w1 w2 (.slice none 0 0) 0 (allL n1 ns n3 0)) := ⟨World.ownsRow_nil _ _ _ _, rfl, hb2, hb2.size⟩
  clear hb2
  obtain ⟨j0, ji, jz0, jz1, jz2⟩ := info_parts info_step
  go_wp2_with fail
  go_loopw [3, 4] (fun v kd wr => ∃ (k : Nat) (u : Value) (t : Nat), u = v ∧ kd = .int .i64 k ∧ k ≤ 4 ∧ Hid (OS w1.heap.size w1 wr u t (allL n1 ns n3 k))) (fun _ kd _ => 4 - (intOf kd).toNat)
  case atStart => exact ⟨0, _, 0, rfl, rfl, by omega, Q0⟩
  case round =>
    clear Q0
    obtain ⟨k, v, t, rfl, rfl, hk, Q1⟩ := hrel
    by_cases hk4 : k < 4
    · have t3 := (C1.out.T.below Q1.out.B C1.out.T.lt).cell 3
      go_wp2_with fail
      clear t3
      obtain ⟨wo, hwo⟩ : ∃ wo : World, wo = wr := ⟨_, rfl⟩
      subst hwo
      have Q2 : Hid (OS w1.heap.size w1 wo v t (allL n1 ns n3 k ++ kindL n1 ns k 0)) := Q1.out.cast (by simp [kindL])
      clear Q1
      go_loopw [3, 18] (fun v ai wr => ∃ (a : Nat) (u : Value) (t : Nat), u = v ∧ ai = .int .i64 a ∧ a ≤ n3 ∧ Hid (OS w1.heap.size w1 wr u t (allL n1 ns n3 k ++ kindL n1 ns k a))) (fun _ ai _ => n3 - (intOf ai).toNat)
      case atStart => exact ⟨0, _, t, rfl, rfl, by omega, Q2⟩
      case round =>
        clear Q2
        obtain ⟨a, v, t, rfl, rfl, ha, Q2⟩ := hrel
        by_cases hal : a < n3
        · have t1 := (C1.out.T.below Q2.out.B C1.out.T.lt).cell 1
          go_wp2_with fail
          clear t1
          obtain ⟨wo, hwo⟩ : ∃ wo : World, wo = wr := ⟨_, rfl⟩
          subst hwo
          have Q3 : Hid (OS w1.heap.size w1 wo v t (allL n1 ns n3 k ++ (kindL n1 ns k a ++ (List.range 0).map (stP k a)))) := Q2.out.cast (by simp)
          clear Q2
          go_loopw [3, 6, 24] (fun v _ ai wr => ∃ (p : Nat) (u : Value) (t : Nat), u = v ∧ ai = .int .i64 p ∧ p ≤ n1 ∧ Hid (OS w1.heap.size w1 wr u t (allL n1 ns n3 k ++ (kindL n1 ns k a ++ (List.range p).map (stP k a))))) (fun _ _ ai _ => n1 - (intOf ai).toNat)
          case atStart => exact ⟨0, _, t, rfl, rfl, by omega, Q3⟩
          case round =>
            clear Q3
            obtain ⟨p, v, t, rfl, rfl, hp, Q3⟩ := hrel
            have ht : t ≤ 400 := by
              have h1 := Q3.out.l
              have h2 := allL_small (n := k) b1 b2 b3 (by omega)
              have h3 := kindL_small (k := k) (a := a) b1 b2 (by omega)
              simp only [List.length_append, List.length_map, List.length_range] at h1
              omega
            by_cases hpl : p < n1
            · have S5 := Lib.hid (Src.new (m := 1) (c := 1) (size := 5) (Blk.new wr 39 #[.int .i64 k, .int .i64 a, .int .i64 p, .int .i64 (-1), .int .i64 0]) rfl)
              have N5 : Hid (∀ y ∈ (#[.int .i64 k, .int .i64 a, .int .i64 p, .int .i64 (-1), .int .i64 0] : Array Value).toList, y.oneCell' = true) := (stP k a p).one
              have O5 := Lib.hid (Q3.out.o.alloc (.cells #[.int .i64 k, .int .i64 a, .int .i64 p, .int .i64 (-1), .int .i64 0] 39))
              have Z5 : Hid (w1.heap.size ≤ (wr.alloc (.cells #[.int .i64 k, .int .i64 a, .int .i64 p, .int .i64 (-1), .int .i64 0] 39)).heap.size) := Nat.le_trans Q3.out.B.size (by simp)
              go_wp2_with (at_builtin; refine wpList_append_src _ rfl (.tmp 27) (.tmp 32) 40 rfl w1.heap.size 39 j0 _ 5 40 Try.underlying40 ji jz0 jz1 jz2 rfl (by decide) v t _ rfl O5.out 1 _ _ rfl S5.out N5.out (by unfold maxLen; omega) (by omega) Z5.out ?_; intro v7 w7 hown7 hg7; have Q7 := Lib.hid ((OS.app (s := stP k a p) Q3.out hown7 hg7).cast (e_part n1 ns n3 k a p)); clear hown7 hg7)
              go_roundw
              case rel => exact ⟨v7, .int .i64 p, .int .i64 (p + 1), ⟨p + 1, by go_num, by omega, _, Q7⟩, rfl, rfl, rfl⟩
              case measure => simp [intOf]; omega
            · have hpn : p = n1 := by omega
              subst hpn
              have t0 := (C1.out.T.below Q3.out.B C1.out.T.lt).cell 0
              rw [HNS.out] at t0
              go_wp2_with fail
              clear t0
              obtain ⟨wo, hwo⟩ : ∃ wo : World, wo = wr := ⟨_, rfl⟩
              subst hwo
              have Q4 : Hid (OS w1.heap.size w1 wo v t (allL p ns n3 k ++ (kindL p ns k a ++ ((List.range p).map (stP k a) ++ (List.range 0).map (stS k a))))) := Q3.out.cast (by simp)
              clear Q3
              go_loopw [3, 7, 37] (fun v _ ai wr => ∃ (q : Nat) (u : Value) (t : Nat), u = v ∧ ai = .int .i64 q ∧ q ≤ ns ∧ Hid (OS w1.heap.size w1 wr u t (allL p ns n3 k ++ (kindL p ns k a ++ ((List.range p).map (stP k a) ++ (List.range q).map (stS k a)))))) (fun _ _ ai _ => ns - (intOf ai).toNat)
              case atStart => exact ⟨0, _, t, rfl, rfl, by omega, Q4⟩
              case round =>
                clear Q4
                obtain ⟨q, v, t, rfl, rfl, hq, Q4⟩ := hrel
                have ht : t ≤ 400 := by
                  have h1 := Q4.out.l
                  have h2 := allL_small (n := k) b1 b2 b3 (by omega)
                  have h3 := kindL_small (k := k) (a := a) b1 b2 (by omega)
                  simp only [List.length_append, List.length_map, List.length_range] at h1
                  omega
                by_cases hql : q < ns
                · have S5 := Lib.hid (Src.new (m := 1) (c := 1) (size := 5) (Blk.new wr 39 #[.int .i64 k, .int .i64 a, .int .i64 (-1), .int .i64 q, .int .i64 0]) rfl)
                  have N5 : Hid (∀ y ∈ (#[.int .i64 k, .int .i64 a, .int .i64 (-1), .int .i64 q, .int .i64 0] : Array Value).toList, y.oneCell' = true) := (stS k a q).one
                  have O5 := Lib.hid (Q4.out.o.alloc (.cells #[.int .i64 k, .int .i64 a, .int .i64 (-1), .int .i64 q, .int .i64 0] 39))
                  have Z5 : Hid (w1.heap.size ≤ (wr.alloc (.cells #[.int .i64 k, .int .i64 a, .int .i64 (-1), .int .i64 q, .int .i64 0] 39)).heap.size) := Nat.le_trans Q4.out.B.size (by simp)
                  go_wp2_with (at_builtin; refine wpList_append_src _ rfl (.tmp 40) (.tmp 45) 40 rfl w1.heap.size 39 j0 _ 5 40 Try.underlying40 ji jz0 jz1 jz2 rfl (by decide) v t _ rfl O5.out 1 _ _ rfl S5.out N5.out (by unfold maxLen; omega) (by omega) Z5.out ?_; intro v7 w7 hown7 hg7; have Q7 := Lib.hid ((OS.app (s := stS k a q) Q4.out hown7 hg7).cast (e_slot p ns n3 k a q)); clear hown7 hg7)
                  go_roundw
                  case rel => exact ⟨v7, .int .i64 q, .int .i64 (q + 1), ⟨q + 1, by go_num, by omega, _, Q7⟩, rfl, rfl, rfl⟩
                  case measure => simp [intOf]; omega
                · have hqn : q = ns := by omega
                  subst hqn
                  have Q5 := Lib.hid (Q4.out.cast (e_arm p q n3 k a))
                  clear Q4
                  go_wp2_with fail
                  go_roundw
                  case rel => exact ⟨a + 1, _, t, rfl, by go_num, by omega, Q5⟩
                  case measure => simp [intOf]; omega
        · have han : a = n3 := by omega
          subst han
          have Q3 : Hid (OS w1.heap.size w1 wr v t (allL n1 ns a (k + 1))) := Q2.out.cast (by rw [allL_succ])
          clear Q2
          go_wp2_with fail
          go_roundw
          case rel => exact ⟨k + 1, _, t, rfl, by go_num, by omega, Q3⟩
          case measure => simp [intOf]; omega
    · have hkn : k = 4 := by omega
      subst hkn
      have hl4 := allL_len n1 ns n3 4
      have hsm := allL_small (n := 4) b1 b2 b3 (by omega)
      have hpos : 0 < t := by
        rw [← Q1.out.l, hl4]
        exact Nat.mul_pos (by omega) (Nat.mul_pos p3 (by omega))
      have htb : t ≤ 224 := by rw [← Q1.out.l]; exact hsm
      clear hl4 hsm
      go_wp2_with fail
      refine (deleteS_any w1 w.heap.size x A1 A2 A3 n1 n3 c1 c2 c3 C1.out v t (allL n1 ns n3 4) _ Q1.out.B Q1.out.o Q1.out.l hpos (by omega)).mono ?_
      rintro e w3 ⟨A, c, rfl, ho3, hb3⟩
      have hfl : ((allL n1 ns n3 4).filter fun s => !noS x s).length ≤ 224 := Nat.le_trans (List.length_filter_le _ _) (by rw [Q1.out.l]; exact htb)
      have HF : Hid (∃ F : List St, F = (allL n1 ns n3 4).filter fun s => !noS x s) := ⟨_, rfl⟩
      obtain ⟨F, hF⟩ := HF.out
      rw [← hF] at ho3 hfl
      simp only [← hF]
      have HFF := Lib.hid hF
      have O3 := Lib.hid ho3
      have B3 := Lib.hid hb3
      clear hF HF ho3 hb3 Q1
      go_wp2_with fail
      refine (sortS_any w1.heap.size _ F.length F _ O3.out rfl (by omega) B3.out.size).mono ?_
      rintro e w4 ⟨rfl, gs, hs, hp, hl, ho4, hb4⟩
      have P4 : Hid (StepsP x gs) := stepsP_mk L1.out HNS.out L3.out hs (HFF.out ▸ hp)
      have O4 : Hid (w4.ownsRow (w.heap.size + 1) 39 5 (.slice A F.length c) F.length (flat St.cells gs)) := by rw [← HS.out]; exact ho4
      have B4 := Lib.hid (KB.out.trans ((B3.out.trans hb4).mono (by rw [HS.out]; omega)))
      have HL := Lib.hid hl
      clear hs hp ho4 hb4 hl
      go_wp2_with fail
      go_ret
      exact ⟨A, c, gs, by rw [HL.out]; rfl, P4.out, by rw [HL.out]; exact hfl, by rw [HL.out]; exact O4.out, B4.out⟩
end Go.Proofs.Ytioofkhadjaldaa
