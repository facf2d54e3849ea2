/- The walk of gantkeep4.pick. -/
import Derived.Test.YtioofkhadjaldaaKeep
namespace Go.Proofs.Ytioofkhadjaldaa
open Go.RowKit
set_option linter.unusedVariables false
set_option maxRecDepth 100000

/-- The step that pick gives. -/
def Picked (ss : List St) (x : Int) (s : St) : Prop := (ss = [] ∧ s = ⟨0, 0, 0, 0, 0⟩) ∨ ∃ k : Nat, (k : Int) = x % ss.length ∧ ss[k]? = some s
theorem Picked.mem {ss : List St} {x : Int} {s : St} (h : Picked ss x s) (hs : s ≠ ⟨0, 0, 0, 0, 0⟩) : s ∈ ss := by
  rcases h with ⟨_, h⟩ | ⟨k, _, h⟩
  · exact absurd h hs
  · exact List.mem_of_getElem? h
set_option maxHeartbeats 2000000 in
theorem pick_any (A : Option Addr) (c : Nat) (ss : List St) (x : Int) (w : World) (hR : RS w A ss) (hm : ss.length ≤ 1000) (hx1 : -9223372036854775808 ≤ x) (hx2 : x ≤ 9223372036854775807) :
    Calls Try.prog 25 #[.slice A ss.length c, .int .i64 x] w fun e w' => ∃ s : St, e = .returned (.agg #[.int .i64 s.kind, .int .i64 s.arm, .int .i64 s.part, .int .i64 s.slot, .int .i64 s.ticks]) ∧ Picked ss x s ∧ Below w.heap.size w w' := by
  have R0 := Lib.hid hR
  clear hR
  rcases Nat.eq_zero_or_pos ss.length with h0 | h0
  · have hss : ss = [] := List.eq_nil_of_length_eq_zero h0
    subst hss
    have Z0 := Lib.hid (Blk.new w 39 #[.int .i64 0, .int .i64 0, .int .i64 0, .int .i64 0, .int .i64 0])
    clear h0
    go_enter Try.func25, Try.ntmps25
    go_wp2_with fail
    obtain ⟨z0, z1, z2, z3, z4⟩ := blk5 Z0.out
    exact bodyPost_ret (v := .agg #[.int .i64 0, .int .i64 0, .int .i64 0, .int .i64 0, .int .i64 0]) (by simp [results, Try.results25, go_sem, z0, z1, z2, z3, z4]) rfl ⟨⟨0, 0, 0, 0, 0⟩, rfl, .inl ⟨rfl, rfl⟩, (Below.refl _ _).alloc (Nat.le_refl _) _⟩
  · obtain ⟨q, hq⟩ : ∃ q, x % (ss.length : Int) = q := ⟨_, rfl⟩
    have hq0 : 0 ≤ q := by rw [← hq]; exact Int.emod_nonneg _ (by omega)
    have hq1 : q < ss.length := by rw [← hq]; exact Int.emod_lt_of_pos _ (by omega)
    have HQ := Lib.hid hq
    clear hq
    obtain ⟨k, rfl⟩ := Int.eq_ofNat_of_zero_le hq0
    have hk : k < ss.length := by omega
    obtain ⟨s, hs⟩ := some_at hk
    have KB := Lib.hid ((Below.refl w.heap.size w).alloc (Nat.le_refl _) (.cells #[.int .i64 0, .int .i64 0, .int .i64 0, .int .i64 0, .int .i64 0] 39))
    have KC := Lib.hid ((Below.refl w.heap.size w).alloc (Nat.le_refl _) (.cells #[.int .i64 s.kind, .int .i64 s.arm, .int .i64 s.part, .int .i64 s.slot, .int .i64 s.ticks] 39))
    have Z0 := Lib.hid (Blk.new w 39 #[.int .i64 s.kind, .int .i64 s.arm, .int .i64 s.part, .int .i64 s.slot, .int .i64 s.ticks])
    obtain ⟨b, o, rfl, hb, c0, c1, c2, c3, c4⟩ := RS.at (RK.below R0.out KB.out) hs
    have HS := Lib.hid hs
    have hn0 : ((ss.length : Int) == 0) = false := by rw [beq_eq_false_iff_ne]; omega
    clear hs hq0 hq1 R0
    go_enter Try.func25, Try.ntmps25
    go_wp2_with fail
    refine (below_q x ss.length k _ (by omega) hx1 hx2 (by omega) HQ).mono ?_
    rintro e w' ⟨rfl, rfl⟩
    go_wp2_with fail
    obtain ⟨z0, z1, z2, z3, z4⟩ := blk5 Z0.out
    exact bodyPost_ret (v := .agg #[.int .i64 s.kind, .int .i64 s.arm, .int .i64 s.part, .int .i64 s.slot, .int .i64 s.ticks]) (by simp [results, Try.results25, go_sem, z0, z1, z2, z3, z4]) rfl ⟨s, rfl, .inr ⟨k, HQ.out.symm, HS.out⟩, KC.out⟩

theorem len_sub {α : Type} [DecidableEq α] : ∀ (xs ys : List α), xs.Pairwise (· ≠ ·) → (∀ x ∈ xs, x ∈ ys) → xs.length ≤ ys.length
  | [], ys, _, _ => by simp
  | x :: xs, ys, hp, hs => by
    have hx : x ∈ ys := hs x List.mem_cons_self
    have h1 := (List.pairwise_cons.1 hp).1
    have ih := len_sub xs (ys.erase x) hp.of_cons (fun z hz => (List.mem_erase_of_ne (Ne.symm (h1 z hz))).2 (hs z (List.mem_cons_of_mem _ hz)))
    rw [List.length_erase_of_mem hx] at ih
    have := List.length_pos_of_mem hx
    simp only [List.length_cons]
    omega
theorem setF_len {rs l : List Fct} {p : Fct → Prop} (h : SetF rs p) (hl : l.length ≤ 3) (hs : ∀ f, p f → f ∈ l) : rs.length ≤ 3 :=
  Nat.le_trans (len_sub rs l (h.1.imp fun {a b} hab (e : a = b) => ltF_irr b (by rw [e] at hab; exact hab)) fun f hf => hs f ((h.2 f).1 hf)) hl

/-- What ActFacts asks of the sets. -/
structure Chg (av bv ls ms : List Fct) (arm : Int) : Prop where
  l : ls.length ≤ 3
  m : ms.length ≤ 3
  n : 0 < ms.length
  a : ∀ f ∈ ls ++ ms, f.k = 2 ∨ f.k = 3 ∨ f.k = 6 → f.a = arm
  e : ∀ rs, SetF rs (fun f => (((f ∈ av ∧ ¬ f ∈ ls) ∧ okF f) ∨ f ∈ ms) ∧ okF f) → rs = bv
theorem chg {x y : AW} {arm : Int} {av bv ls ms : List Fct} (hx : ValidA x) (hy : ValidA y) (hd : ∃ l m, Diff x y arm l m) (ha : SetF av (fun f => FactP x f ∧ okF f)) (hb : SetF bv (fun f => FactP y f ∧ okF f))
    (hl : SetF ls (fun f => (f ∈ av ∧ ¬ f ∈ bv) ∧ okF f)) (hm : SetF ms (fun f => (f ∈ bv ∧ ¬ f ∈ av) ∧ okF f)) : Chg av bv ls ms arm := by
  obtain ⟨l, m, d⟩ := hd
  have ma : ∀ f, f ∈ av ↔ FactP x f := fun f => (ha.2 f).trans ⟨fun h => h.1, fun h => ⟨h, factP_ok hx h⟩⟩
  have mb : ∀ f, f ∈ bv ↔ FactP y f := fun f => (hb.2 f).trans ⟨fun h => h.1, fun h => ⟨h, factP_ok hy h⟩⟩
  have hls : ∀ f, f ∈ ls ↔ FactP x f ∧ ¬ FactP y f := fun f => by
    rw [hl.2]; show (f ∈ av ∧ ¬ f ∈ bv) ∧ okF f ↔ _; rw [ma, mb]; exact ⟨fun h => h.1, fun h => ⟨h, factP_ok hx h.1⟩⟩
  have hms : ∀ f, f ∈ ms ↔ FactP y f ∧ ¬ FactP x f := fun f => by
    rw [hm.2]; show (f ∈ bv ∧ ¬ f ∈ av) ∧ okF f ↔ _; rw [ma, mb]; exact ⟨fun h => h.1, fun h => ⟨h, factP_ok hy h.1⟩⟩
  have sl : ∀ f, f ∈ ls → f ∈ l := fun f hf => by
    obtain ⟨h1, h2⟩ := (hls f).1 hf
    exact (d.fx f h1).resolve_left h2
  have sm : ∀ f, f ∈ ms → f ∈ m := fun f hf => by
    obtain ⟨h1, h2⟩ := (hms f).1 hf
    exact (d.fy f h1).resolve_left h2
  refine ⟨setF_len hl d.l fun f hf => sl f ((hl.2 f).2 hf), setF_len hm d.m fun f hf => sm f ((hm.2 f).2 hf), ?_, ?_, ?_⟩
  · obtain ⟨f, h⟩ := d.n
    exact List.length_pos_of_mem ((hms f).2 h)
  · intro f hf
    rw [List.mem_append] at hf
    refine d.a f (List.mem_append.2 ?_)
    rcases hf with hf | hf
    · exact .inl (sl f hf)
    · exact .inr (sm f hf)
  · intro rs hr
    refine SetF.eq hr hb fun f => ?_
    show (((f ∈ av ∧ ¬ f ∈ ls) ∧ okF f) ∨ f ∈ ms) ∧ okF f ↔ FactP y f ∧ okF f
    rw [ma, hls, hms]
    constructor
    · rintro ⟨⟨⟨h1, h2⟩, h3⟩ | h1, h4⟩
      · refine ⟨?_, h3⟩
        by_cases hyf : FactP y f
        · exact hyf
        · exact absurd ⟨h1, hyf⟩ h2
      · exact ⟨h1.1, h4⟩
    · rintro ⟨h1, h2⟩
      refine ⟨?_, h2⟩
      by_cases hxf : FactP x f
      · exact .inl ⟨⟨hxf, fun h => h.2 h1⟩, h2⟩
      · exact .inr ⟨h1, hxf⟩
end Go.Proofs.Ytioofkhadjaldaa
