/- The walk of gantkeep4.ToolsNever. -/
import Derived.Test.YtnmngjikcimpnaaEarly
namespace Go.Proofs.Ytnmngjikcimpnaa
open Go.RowKit
set_option linter.unusedVariables false

theorem planned_right {ts : List Task} {ss : List Int} (hT : TasksOk ts) (h : Planned ts ss) (hl : ss.length = ts.length) : RightT ts ss := by
  constructor
  · intro j t s hj ht hs
    obtain ⟨p1, p2, a, hm, hn, hf⟩ := h.2 j t s ht hs
    have q := (hT.2 j t ht).2.2.2.1
    have := hT.1
    refine ⟨p1, by omega, fun x hx => ?_⟩
    have := hm.2.1 x hx
    by_cases h0 : 0 ≤ t.tool
    · have := (hf h0).1; omega
    · have := hn (by omega); omega
  · have := (planned_good hT h).1
    rwa [hl, List.take_length] at this

theorem planned_prefix {ts : List Task} {t : Task} {ss ss' : List Int} (hT : TasksOk ts) (h : Planned ts ss) (h' : Planned (ts ++ [t]) ss') (hl : ss.length = ts.length) (hl' : ss'.length = ts.length + 1) : ss'.take ss.length = ss := by
  have key : ∀ k, k ≤ ss.length → ss'.take k = ss.take k := by
    intro k
    induction k with
    | zero => intro _; simp
    | succ k ih =>
      intro hk
      have ih := ih (by omega)
      obtain ⟨x, hx⟩ := some_at (l := ss) (k := k) (by omega)
      obtain ⟨y, hy⟩ := some_at (l := ss') (k := k) (by omega)
      obtain ⟨u, hu⟩ := some_at (l := ts) (k := k) (by omega)
      have hu' : (ts ++ [t])[k]? = some u := by rw [List.getElem?_append_left (lt_of_at hu)]; exact hu
      obtain ⟨_, _, a, hm, hn, hf⟩ := h.2 k u x hu hx
      obtain ⟨_, _, a', hm', hn', hf'⟩ := h'.2 k u y hu' hy
      have hend : ∀ z ∈ u.after, EndT ts ss z = EndT (ts ++ [t]) ss' z := by
        intro z hz
        obtain ⟨i, hi⟩ := List.getElem?_of_mem hz
        obtain ⟨z0, z1⟩ := (hT.2 k u hu).2.2.2.2.2 i z hi
        unfold EndT longAt
        have e1 : (ts ++ [t])[z.toNat]? = ts[z.toNat]? := List.getElem?_append_left (by omega)
        have e2 : ss'[z.toNat]? = ss[z.toNat]? := by
          have a1 : (ss'.take k)[z.toNat]? = ss'[z.toNat]? := by rw [List.getElem?_take, if_pos (by omega)]
          have a2 : (ss.take k)[z.toNat]? = ss[z.toNat]? := by rw [List.getElem?_take, if_pos (by omega)]
          rw [← a1, ih, a2]
        simp only [List.getD, e1, e2]
      have haa : a = a' := hm.uniq hm' hend
      subst haa
      have hxy : x = y := by
        by_cases h0 : 0 ≤ u.tool
        · have f1 := hf h0
          have f2 := hf' h0
          rw [ih, List.take_append_of_le_length (by have := lt_of_at hu; omega)] at f2
          exact f1.uniq f2
        · rw [hn (by omega), hn' (by omega)]
      rw [List.take_add_one, List.take_add_one, ih, hx, hy, hxy]
  have := key ss.length (Nat.le_refl _)
  rwa [List.take_length] at this

theorem ends_le {ts : List Task} {t : Task} {ss ss' : List Int} {e e' : Int} (h : IsEndT ts ss e) (h' : IsEndT (ts ++ [t]) ss' e') (hl : ss.length = ts.length) (hl' : ss'.length = ts.length + 1) (hp : ss'.take ss.length = ss) : e ≤ e' := by
  obtain ⟨h0, h1, h2⟩ := h
  obtain ⟨k0, k1, k2⟩ := h'
  rcases h2 with h2 | ⟨k, hk, h2⟩
  · omega
  · have := k1 k (by omega)
    have e1 : EndT (ts ++ [t]) ss' (k : Int) = EndT ts ss (k : Int) := by
      unfold EndT longAt
      have a1 : (ts ++ [t])[(k : Int).toNat]? = ts[(k : Int).toNat]? := List.getElem?_append_left (by simp; omega)
      have a2 : ss'[(k : Int).toNat]? = ss[(k : Int).toNat]? := by
        rw [← hp, List.getElem?_take, if_pos (by simp; omega)]
      simp only [List.getD, a1, a2]
    omega
theorem planned_bd {ts : List Task} {ss : List Int} (hT : TasksOk ts) (h : Planned ts ss) (hl : ss.length = ts.length) : ∀ s ∈ ss, 0 ≤ s ∧ s ≤ 1000 := by
  intro s hs
  obtain ⟨j, hj⟩ := List.getElem?_of_mem hs
  obtain ⟨t, ht⟩ := some_at (l := ts) (k := j) (by have := lt_of_at hj; omega)
  have h1 := (h.2 j t s ht hj).1
  have h2 := (h.2 j t s ht hj).2.1
  have := hT.1
  have := lt_of_at ht
  omega
theorem own_src {w : World} {base : Nat} {e : TypeId} {size n : Nat} {v : Value} {xs : List Value} (h : w.ownsRow base e size v n xs) : Src w v size n xs := by
  refine ⟨h.1, ?_⟩
  have hc := fun g hg => h.cells (g := g) hg
  rcases h.2 with h2 | ⟨g, cap, cur, rfl, _⟩
  · exact .inl h2
  · exact .inr ⟨g, 0, cap, rfl, fun j u hu => by have := hc g rfl j u hu; rwa [Addr.add_lit] at this⟩
theorem tasksOk_snoc {ts : List Task} {a b : Int} (hT : TasksOk ts) (hl : ts.length ≤ 9) (h1 : -1 ≤ a) (h2 : a < 6) (h3 : 1 ≤ b) (h4 : b ≤ 20) : TasksOk (ts ++ [⟨a, b, []⟩]) := by
  refine ⟨by simp; omega, fun k t ht => ?_⟩
  by_cases hk : k < ts.length
  · rw [List.getElem?_append_left hk] at ht
    exact hT.2 k t ht
  · have hke : k = ts.length := by have := lt_of_at ht; simp at this; omega
    subst hke
    simp at ht
    subst ht
    exact ⟨h1, h2, h3, h4, by simp, by simp⟩

set_option maxHeartbeats 8000000 in
set_option maxRecDepth 100000 in
theorem never_ok (A0 : Option Addr) (n0 c0 : Nat) (z0 : List Int) (q1 q2 : Int) (w : World) (h0 : IntArg w A0 n0 c0 z0)
    (a1 : -9223372036854775808 ≤ q1) (a2 : q1 ≤ 9223372036854775807) (b1 : -9223372036854775808 ≤ q2) (b2 : q2 ≤ 9223372036854775807) :
    Calls Try.prog 7 #[.slice A0 n0 c0, .int .i64 q1, .int .i64 q2] w fun e w' => e = .returned (.bool true) ∧ Below w.heap.size w w' := by
  have I0 := Lib.hid h0
  clear h0
  obtain ⟨j0, ji, jz0, jz1, jz2⟩ := info_parts info_task
  go_enter Try.func7, Try.ntmps7
  go_wp2_with fail
  refine (mkTasks_ok _ _ _ _ _ I0.out).mono ?_
  rintro e w1 ⟨v1, ts, vs, rfl, hT, hl9, _, ho1, hv1, hb1⟩
  obtain ⟨At, ct, hv⟩ := own_slice ho1
  subst hv
  have HT := Lib.hid hT
  have R1 := Lib.hid (hv1.rt ho1)
  have V1 := Lib.hid hv1
  have O1 := Lib.hid ho1
  have B1 := Lib.hid hb1
  clear hT ho1 hv1 hb1
  go_wp2_with fail
  refine (plan_ok _ _ _ ts _ rfl R1.out HT.out).mono ?_
  rintro e w2 ⟨v2, ss, rfl, hsl, hp, ho2, hb2⟩
  obtain ⟨As, cs, hv⟩ := own_slice ho2
  subst hv
  have Hp := Lib.hid hp
  have Hsl := Lib.hid hsl
  have S2 := Lib.hid (RI.own ho2)
  have R2 := Lib.hid (R1.out.below hb2)
  have V2 := Lib.hid (V1.out.below hb2)
  have X2 := Lib.hid (own_src (own_below O1.out hb2))
  have B2 := Lib.hid (B1.out.trans (hb2.mono B1.out.size))
  clear hp hsl ho2 hb2
  go_wp2_with fail
  refine (clone_task _ _ _ vs _ (by omega) X2.out V2.out.2.1).mono ?_
  rintro e w3 ⟨v3, rfl, ho3, hb3⟩
  have O3 := Lib.hid ho3
  have S3 := Lib.hid (S2.out.below hb3)
  have R3 := Lib.hid (R2.out.below hb3)
  have V3 := Lib.hid (V2.out.below hb3)
  have B3 := Lib.hid (B2.out.trans (hb3.mono B2.out.size))
  have C3 := Lib.hid hb3
  clear ho3 hb3
  go_wp2_with fail
  refine (below_any _ _ _ (by omega) a1 a2 (by omega)).mono ?_
  rintro e w4 ⟨rfl, rfl⟩
  have t0 := Int.emod_nonneg q1 (show (4 : Int) ≠ 0 by omega)
  have t1 := Int.emod_lt_of_pos q1 (show (0 : Int) < 4 by omega)
  generalize q1 % 4 = t' at *
  go_wp2_with fail
  refine (below_any _ _ _ (by omega) b1 b2 (by omega)).mono ?_
  rintro e w4 ⟨rfl, rfl⟩
  have l0 := Int.emod_nonneg q2 (show (20 : Int) ≠ 0 by omega)
  have l1 := Int.emod_lt_of_pos q2 (show (0 : Int) < 20 by omega)
  generalize q2 % 20 = l' at *
  have O4 := Lib.hid (O3.out.alloc (.cells #[.int .i64 (t' - 1), .int .i64 (1 + l'), .slice none 0 0] 53))
  have E4 := Lib.hid (C3.out.alloc C3.out.size (.cells #[.int .i64 (t' - 1), .int .i64 (1 + l'), .slice none 0 0] 53))
  have Z4 := Lib.hid E4.out.size
  have Y4 := Lib.hid (Src.new (m := 1) (c := 1) (size := 3) (Blk.new w3 53 #[.int .i64 (t' - 1), .int .i64 (1 + l'), .slice none 0 0]) rfl)
  have N4 : Hid (∀ y ∈ (#[Value.int .i64 (t' - 1), .int .i64 (1 + l'), .slice none 0 0] : Array Value).toList, y.oneCell' = true) := by intro y hy; simp at hy; rcases hy with rfl | rfl | rfl <;> rfl
  have V4 := Lib.hid ((V3.out.snoc (t := ⟨t' - 1, 1 + l', []⟩) (A := none) (c := 0) (RI.nil _ _) (fun a ha => by cases ha)).below ((Below.refl w3.heap.size w3).alloc (Nat.le_refl _) (.cells #[.int .i64 (t' - 1), .int .i64 (1 + l'), .slice none 0 0] 53)))
  go_wp2_with (at_builtin; refine wpList_append_src _ rfl (.tmp 25) (.tmp 33) 45 rfl w2.heap.size 53 j0 _ 3 40 Try.underlying45 ji jz0 jz1 jz2 rfl (by decide) v3 ts.length vs rfl O4.out 1 _ _ rfl Y4.out N4.out (by unfold maxLen; omega) (by omega) Z4.out ?_; intro v5 w5 hown5 hg5; have E5 := Lib.hid (below_append E4.out O4.out hg5 Z4.out); have V5 := Lib.hid (V4.out.grown O4.out hg5); have O5 := Lib.hid hown5; clear hown5 hg5; obtain ⟨Am, cm, hv5⟩ := own_slice O5.out; subst hv5)
  have B5 := Lib.hid (B2.out.trans (E5.out.mono B2.out.size))
  have R5 := Lib.hid (R2.out.below E5.out)
  have S5 := Lib.hid (S2.out.below E5.out)
  obtain ⟨ms, hms⟩ : ∃ ms, ms = ts ++ [Task.mk (t' - 1) (1 + l') []] := ⟨_, rfl⟩
  have hml : ms.length = ts.length + 1 := by rw [hms]; simp
  have HM : Hid (TasksOk ms) := by rw [hms]; exact tasksOk_snoc HT.out hl9 (by omega) (by omega) (by omega) (by omega)
  have M5 : Hid (RT w5 Am ms) := by
    have h1 := V5.out
    rw [← hms] at h1
    refine h1.rt (base := w2.heap.size) (c := cm) ?_
    rw [hml]; exact O5.out
  have Hms := Lib.hid hms
  have Hml := Lib.hid hml
  have hcm := own_cap O5.out
  clear hms hml
  clear V5 O5 E5 V4 N4 Y4 Z4 E4 O4 C3 B3 V3 R3 S3 O3 X2 V2 O1 V1 R1
  refine (plan_ok _ _ _ ms _ Hml.out M5.out HM.out).mono ?_
  rintro e w6 ⟨v6, ss', rfl, hsl', hp', ho6, hb6⟩
  obtain ⟨Bs, cb, hv⟩ := own_slice ho6
  subst hv
  have Hp' := Lib.hid hp'
  have Hsl' : Hid (ss'.length = ts.length + 1) := by rw [← Hml.out]; exact hsl'
  have T6 := Lib.hid (RI.own ho6)
  have hcb := own_cap ho6
  have M6 := Lib.hid (M5.out.below hb6)
  have R6 := Lib.hid (R5.out.below hb6)
  have S6 := Lib.hid (S5.out.below hb6)
  have B6 := Lib.hid (B5.out.trans (hb6.mono B5.out.size))
  clear hp' hsl' ho6 hb6
  go_wp2_with fail
  refine (tooled_ok _).mono ?_
  rintro e w7 ⟨rfl, hb7⟩
  have M7 := Lib.hid (M6.out.below hb7)
  have R7 := Lib.hid (R6.out.below hb7)
  have S7 := Lib.hid (S6.out.below hb7)
  have T7 := Lib.hid (T6.out.below hb7)
  have B7 := Lib.hid (B6.out.trans (hb7.mono B6.out.size))
  have g1 : ((ss.length : Int) != ts.length) = false := by rw [Hsl.out]; simp
  have g2 : ((ss'.length : Int) != (ts.length : Int) + 1) = false := by rw [Hsl'.out]; simp
  have hs9 : ss.length ≤ 9 := by have := Hsl.out; omega
  have hs9' : ss'.length ≤ 10 := by have := Hsl'.out; omega
  have Hr := Lib.hid (planned_right HT.out Hp.out Hsl.out)
  have Hr' := Lib.hid (planned_right HM.out Hp'.out (by rw [Hsl'.out, Hml.out]))
  have Hbd := Lib.hid (planned_bd HT.out Hp.out Hsl.out)
  have Hbd' := Lib.hid (planned_bd HM.out Hp'.out (by rw [Hsl'.out, Hml.out]))
  have Hpre : Hid (ss'.take ss.length = ss) := by
    have h1 := Hp'.out
    rw [Hms.out] at h1
    exact planned_prefix HT.out Hp.out h1 Hsl.out Hsl'.out
  clear hb7 M6 R6 S6 T6 B6
  go_wp2_with fail
  refine (tend_ok _ _ _ _ _ _ ts ss _ rfl rfl Hsl.out R7.out HT.out S7.out Hbd.out Hr.out).mono ?_
  rintro e w8 ⟨e1, rfl, he1, hb8⟩
  have E1 := Lib.hid he1
  have M8 := Lib.hid (M7.out.below hb8)
  have R8 := Lib.hid (R7.out.below hb8)
  have S8 := Lib.hid (S7.out.below hb8)
  have T8 := Lib.hid (T7.out.below hb8)
  have B8 := Lib.hid (B7.out.trans (hb8.mono B7.out.size))
  clear hb8 he1 M7 R7 S7 T7 B7
  go_wp2_with fail
  refine (tend_ok _ _ _ _ _ _ ms ss' _ Hml.out rfl (by rw [Hsl'.out, Hml.out]) M8.out HM.out T8.out Hbd'.out Hr'.out).mono ?_
  rintro e w9 ⟨e2, rfl, he2, hb9⟩
  have hle : e1 ≤ e2 := by
    have h1 := he2
    rw [Hms.out] at h1
    exact ends_le E1.out h1 Hsl.out Hsl'.out Hpre.out
  have M9 := Lib.hid (M8.out.below hb9)
  have R9 := Lib.hid (R8.out.below hb9)
  have S9 := Lib.hid (S8.out.below hb9)
  have T9 := Lib.hid (T8.out.below hb9)
  have B9 := Lib.hid (B8.out.trans (hb9.mono B8.out.size))
  clear hb9 he2 E1 M8 R8 S8 T8 B8
  go_wp2_with fail
  refine (tright_any _ _ _ _ _ _ ts ss _ true rfl rfl Hsl.out R9.out HT.out S9.out (fun s hs => by have := Hbd.out s hs; omega) (Says.t Hr.out)).mono ?_
  rintro e w10 ⟨rfl, hb10⟩
  have M10 := Lib.hid (M9.out.below hb10)
  have S10 := Lib.hid (S9.out.below hb10)
  have T10 := Lib.hid (T9.out.below hb10)
  have B10 := Lib.hid (B9.out.trans (hb10.mono B9.out.size))
  clear hb10 M9 R9 S9 T9 B9
  go_wp2_with fail
  refine (tright_any _ _ _ _ _ _ ms ss' _ true Hml.out rfl (by rw [Hsl'.out, Hml.out]) M10.out HM.out T10.out (fun s hs => by have := Hbd'.out s hs; omega) (Says.t Hr'.out)).mono ?_
  rintro e w11 ⟨rfl, hb11⟩
  have S11 := Lib.hid (S10.out.below hb11)
  have T11 := Lib.hid ((T10.out.below hb11).take ss.length)
  have B11 := Lib.hid (B10.out.trans (hb11.mono B10.out.size))
  have hsub : ss.length ≤ cb := by have := Hsl.out; have := Hsl'.out; omega
  clear hb11 M10 S10 T10 B10
  go_wp2_with fail
  refine (equal_any _ _ _ _ _ _ ss (ss'.take ss.length) _ true rfl (by rw [Hpre.out]) (by unfold maxLen; omega) (by unfold maxLen; omega) S11.out T11.out (Says.t Hpre.out.symm)).mono ?_
  rintro e w12 ⟨rfl, n, rfl⟩
  go_wp2_with fail
  go_ret
  exact ⟨ret_bool (by first | rfl | simp [hle]), below_drewN B11.out n⟩
end Go.Proofs.Ytnmngjikcimpnaa
