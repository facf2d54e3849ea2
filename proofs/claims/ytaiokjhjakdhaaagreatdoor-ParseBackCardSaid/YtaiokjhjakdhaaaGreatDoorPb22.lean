/- Trees of statements in memory. No walk. Printed by gen/job.py. · rat.Small. Printed by gen/job.py. -/
import Derived.Test.YtaiokjhjakdhaaaGreatDoorPb21
import Derived.Test.YtaiokjhjakdhaaaGreatDoorPb19
import Derived.Test.YtaiokjhjakdhaaaGreatDoorPb11
namespace Go.Proofs.YtaiokjhjakdhaaaGreatDoor
open Go.RowKit
set_option linter.unusedVariables false
set_option maxRecDepth 100000

theorem str_ne {s x : ByteArray} (h : ¬ s = x) : (s.toList == x.toList) = false := by
  rw [ByteArray.toList_eq, ByteArray.toList_eq]
  rw [beq_eq_false_iff_ne]
  exact fun e => h (ba_ext e)
theorem str_eq {s x : ByteArray} (h : s = x) : (s.toList == x.toList) = true := by subst h; simp
/-- s is one of the texts ws. -/
def memS (s : ByteArray) (ws : List ByteArray) : Bool := ws.any fun x => s.toList == x.toList
theorem memS_iff {s : ByteArray} {ws : List ByteArray} : memS s ws = true ↔ s ∈ ws := by
  unfold memS
  rw [List.any_eq_true]
  constructor
  · rintro ⟨x, h1, h2⟩
    by_cases e : s = x
    · subst e; exact h1
    · rw [str_ne e] at h2; cases h2
  · intro h
    exact ⟨s, h, str_eq rfl⟩
/-- A statement: its kind, names, tolerance, number and blocks. -/
inductive Stm
  | mk (k : Int) (a b : ByteArray) (wd : Option Rat) (n : Int) (bl : List (List Stm))
def Stm.k : Stm → Int | .mk k _ _ _ _ _ => k
def Stm.a : Stm → ByteArray | .mk _ a _ _ _ _ => a
def Stm.b : Stm → ByteArray | .mk _ _ b _ _ _ => b
def Stm.wd : Stm → Option Rat | .mk _ _ _ wd _ _ => wd
def Stm.n : Stm → Int | .mk _ _ _ _ n _ => n
def Stm.bl : Stm → List (List Stm) | .mk _ _ _ _ _ bl => bl
/-- A statement's cells. -/
structure Sv where
  k : Int
  a : ByteArray
  b : ByteArray
  wd : Option Rat
  n : Int
  bv : Value
def Sv.cells (x : Sv) : List Value := [.int .i64 x.k, .string x.a, .string x.b, .bool (sgO x.wd), .string (nuO x.wd), .string (deO x.wd), .int .i64 x.n, x.bv]
theorem Sv.len (x : Sv) : x.cells.length = 8 := rfl
def one (v : Value) : List Value := [v]
theorem one_len (v : Value) : (one v).length = 1 := rfl
/-- What any statement that lies in memory is: its numbers fit, its texts are not too long. -/
structure Sv.ok (v : Sv) : Prop where
  k : -9223372036854775808 ≤ v.k ∧ v.k ≤ 9223372036854775807
  n : -9223372036854775808 ≤ v.n ∧ v.n ≤ 9223372036854775807
  a : v.a.size ≤ maxLen
  b : v.b.size ≤ maxLen
  w : SmO v.wd
/-- The statement s, of at most d blocks within each other, lies in the blocks E. -/
def RSt (E : Ents) : Nat → Stm → Sv → Prop
  | 0, _, _ => False
  | d + 1, s, v => v.ok ∧ v.k = s.k ∧ v.a = s.a ∧ v.b = s.b ∧ v.wd = s.wd ∧ v.n = s.n ∧ ∃ bvs : List Value, RowIn E 23 1 v.bv bvs.length (flat one bvs) ∧
      All2 (fun b x => ∃ svs : List Sv, RowIn E 86 8 x svs.length (flat Sv.cells svs) ∧ All2 (RSt E d) b svs) s.bl bvs
/-- Statements in a row. -/
def RSs (E : Ents) (d : Nat) (l : List Stm) (x : Value) : Prop := ∃ svs : List Sv, RowIn E 86 8 x svs.length (flat Sv.cells svs) ∧ All2 (RSt E d) l svs
theorem RSt.bl {E : Ents} {d : Nat} {s : Stm} {v : Sv} (h : RSt E (d + 1) s v) : ∃ bvs : List Value, RowIn E 23 1 v.bv bvs.length (flat one bvs) ∧ All2 (RSs E d) s.bl bvs := h.2.2.2.2.2.2
theorem RSt.mono {E E' : Ents} (hs : ∀ x ∈ E, x ∈ E') : ∀ {d : Nat} {s : Stm} {v : Sv}, RSt E d s v → RSt E' d s v
  | 0, _, _, h => h
  | d + 1, _, _, ⟨h0, h1, h2, h3, h4, h5, bvs, h6, h7⟩ => ⟨h0, h1, h2, h3, h4, h5, bvs, h6.mono hs, h7.mono fun _ _ ⟨svs, g1, g2⟩ => ⟨svs, g1.mono hs, g2.mono fun _ _ g => RSt.mono hs g⟩⟩
theorem RSs.mono {E E' : Ents} (hs : ∀ x ∈ E, x ∈ E') {d : Nat} {l : List Stm} {x : Value} (h : RSs E d l x) : RSs E' d l x := by
  obtain ⟨svs, h1, h2⟩ := h
  exact ⟨svs, h1.mono hs, h2.mono fun _ _ g => RSt.mono hs g⟩
theorem rStm8 : RowT Tryz.prog 86 8 := ⟨⟨_, Tryz.underlying86, rfl⟩, by kernel_rfl⟩
theorem rJob : RowT Tryz.prog 25 2 := ⟨⟨_, Tryz.underlying25, rfl⟩, by kernel_rfl⟩
theorem rWks : RowT Tryz.prog 35 8 := ⟨⟨_, Tryz.underlying35, rfl⟩, by kernel_rfl⟩
theorem rRat : RowT Tryz.prog 33 3 := ⟨⟨_, Tryz.underlying33, rfl⟩, by kernel_rfl⟩
theorem kInt : ∃ d, Tryz.prog.underlying 3 = some d ∧ d.isRow = false := ⟨_, Tryz.underlying3, rfl⟩
theorem sInt : (Tryz.prog.info? 3).map (·.size) = some 1 := by kernel_rfl
theorem kStr : ∃ d, Tryz.prog.underlying 9 = some d ∧ d.isRow = false := ⟨_, Tryz.underlying9, rfl⟩
theorem sStr : (Tryz.prog.info? 9).map (·.size) = some 1 := by kernel_rfl
theorem kBool : ∃ d, Tryz.prog.underlying 4 = some d ∧ d.isRow = false := ⟨_, Tryz.underlying4, rfl⟩
theorem kStl : ∃ d, Tryz.prog.underlying 23 = some d ∧ d.isRow = false := ⟨_, Tryz.underlying23, rfl⟩
theorem sStl : (Tryz.prog.info? 23).map (·.size) = some 1 := by kernel_rfl
theorem kBll : ∃ d, Tryz.prog.underlying 84 = some d ∧ d.isRow = false := ⟨_, Tryz.underlying84, rfl⟩
theorem kArl : ∃ d, Tryz.prog.underlying 27 = some d ∧ d.isRow = false := ⟨_, Tryz.underlying27, rfl⟩
theorem kPrl : ∃ d, Tryz.prog.underlying 29 = some d ∧ d.isRow = false := ⟨_, Tryz.underlying29, rfl⟩
theorem kSll : ∃ d, Tryz.prog.underlying 30 = some d ∧ d.isRow = false := ⟨_, Tryz.underlying30, rfl⟩
theorem zRat : (Tryz.prog.info? 33).bind (·.zero) = some (.agg #[.bool false, .string ⟨#[]⟩, .string ⟨#[]⟩]) := by kernel_rfl
end Go.Proofs.YtaiokjhjakdhaaaGreatDoor

namespace Go.Proofs.YtaiokjhjakdhaaaGreatDoor
open Go.RowKit
set_option linter.unusedVariables false
set_option maxRecDepth 100000

/-- A number within the limits. -/
def smallQ (q : Rat) : Bool := decide ((nS q.num.natAbs).size ≤ 3) && (decide ((nS q.den).size ≤ 2) && (decide (cmpN q.num.natAbs 1000000 ≤ 0) && decide (cmpN q.den 1000 ≤ 0)))
set_option maxHeartbeats 4000000 in
theorem RSmall_any (q : Rat) (w : World) (hs : SmO (some q)) (hT : Tb w) :
    Calls Tryz.prog 72 #[.agg #[.bool (sgO (some q)), .string (nuO (some q)), .string (deO (some q))]] w fun e w' => e = .returned (.bool (smallQ q)) ∧ Below w.heap.size w w' := by
  have H := Lib.hid (Hp.start hT)
  have S := Lib.hid hs
  have hn : (nS q.num.natAbs).size ≤ 10000 := hs.n
  have hd : (nS q.den).size ≤ 10000 := hs.d
  obtain ⟨c1, e1⟩ : ∃ c, cmpN q.num.natAbs 1000000 = c := ⟨_, rfl⟩
  obtain ⟨c2, e2⟩ : ∃ c, cmpN q.den 1000 = c := ⟨_, rfl⟩
  obtain ⟨N, hN⟩ : ∃ N, nuO (some q) = N := ⟨_, rfl⟩
  obtain ⟨D, hD⟩ : ∃ D, deO (some q) = D := ⟨_, rfl⟩
  have k1 := Lib.hid e1
  have k2 := Lib.hid e2
  have HN := Lib.hid hN
  have HD := Lib.hid hD
  have R : Hid (smallQ q = (decide (N.size ≤ 3) && (decide (D.size ≤ 2) && (decide (c1 ≤ 0) && decide (c2 ≤ 0))))) := Lib.hid (by rw [← hN, ← hD, ← e1, ← e2]; rfl)
  rw [hN, hD, R.out]
  clear e1 e2 hN hD hT hs
  by_cases h1 : N.size ≤ 3
  · have d1 : decide ((N.size : Int) ≤ 3) = true := decide_eq_true (by omega)
    by_cases h2 : D.size ≤ 2
    · have d2 : decide ((D.size : Int) ≤ 2) = true := decide_eq_true (by omega)
      by_cases h3 : c1 ≤ 0
      · have d3 : decide (c1 ≤ 0) = true := decide_eq_true h3
        go_enter Tryz.func72, Tryz.ntmps72
        go_wp2_with (first
            | go_skip
            | ((with_reducible refine isBox ?_); refine bxA H ?_; clear H; intro _ _ H))
        refine wp_region_E H (by kernel_rfl) (by kernel_rfl) ?_
        repeat (first
            | ((with_reducible refine kBui ?_); refine wpK_step (fun K hK => ?_); go_simp; refine hK _ ?_; clear hK K)
            | (refine kskA ?_)
            | ((with_reducible refine kLoad ?_); refine kldA H ?_)
            | ((with_reducible refine kLoad ?_); refine kld1A H ?_)
            | ((fail_if_success (with_reducible refine kCall ?_)); (with_reducible refine kCons ?_); refine wpK_step (fun K hK => ?_); go_simp; refine hK _ ?_; clear hK K))
        refine wpK_step (fun K hK => ?_)
        go_simp
        apply Exists.intro
        refine ⟨fun sx => ?_, hK _ ?_⟩
        · go_at_call 70
          exact by rw [← HN.out, ← HD.out]; exact Good_any (some q) _ S.out (H.out.tbx sx)
        clear hK K
        repeat (first
            | ((with_reducible refine kBui ?_); refine wpK_step (fun K hK => ?_); go_simp; refine hK _ ?_; clear hK K)
            | (refine kskA ?_)
            | ((with_reducible refine kLoad ?_); refine kldA H ?_)
            | ((with_reducible refine kLoad ?_); refine kld1A H ?_)
            | ((fail_if_success (with_reducible refine kCall ?_)); (with_reducible refine kCons ?_); refine wpK_step (fun K hK => ?_); go_simp; refine hK _ ?_; clear hK K))
        refine wpK_step (fun K hK => ?_)
        go_simp
        apply Exists.intro
        refine ⟨fun sx => ?_, hK _ ?_⟩
        · go_at_call 82
          exact natOf_any 1000000 _ (by decide)
        clear hK K
        repeat (first
            | ((with_reducible refine kBui ?_); refine wpK_step (fun K hK => ?_); go_simp; refine hK _ ?_; clear hK K)
            | (refine kskA ?_)
            | ((with_reducible refine kLoad ?_); refine kldA H ?_)
            | ((with_reducible refine kLoad ?_); refine kld1A H ?_)
            | ((fail_if_success (with_reducible refine kCall ?_)); (with_reducible refine kCons ?_); refine wpK_step (fun K hK => ?_); go_simp; refine hK _ ?_; clear hK K))
        refine wpK_step (fun K hK => ?_)
        go_simp
        apply Exists.intro
        refine ⟨fun sx => ?_, hK _ ?_⟩
        · go_at_call 81
          exact by rw [← HN.out]; exact (Cmp_any q.num.natAbs 1000000 c1 _ (by omega) (by decide +kernel) k1).mono fun _ _ h => ⟨h.1, h.2 ▸ Below.refl _ _⟩
        clear hK K
        repeat (first
            | ((with_reducible refine kBui ?_); refine wpK_step (fun K hK => ?_); go_simp; refine hK _ ?_; clear hK K)
            | (refine kskA ?_)
            | ((with_reducible refine kLoad ?_); refine kldA H ?_)
            | ((with_reducible refine kLoad ?_); refine kld1A H ?_)
            | ((fail_if_success (with_reducible refine kCall ?_)); (with_reducible refine kCons ?_); refine wpK_step (fun K hK => ?_); go_simp; refine hK _ ?_; clear hK K))
        refine wpK_step (fun K hK => ?_)
        go_simp
        apply Exists.intro
        refine ⟨fun sx => ?_, hK _ ?_⟩
        · go_at_call 82
          exact natOf_any 1000 _ (by decide)
        clear hK K
        repeat (first
            | ((with_reducible refine kBui ?_); refine wpK_step (fun K hK => ?_); go_simp; refine hK _ ?_; clear hK K)
            | (refine kskA ?_)
            | ((with_reducible refine kLoad ?_); refine kldA H ?_)
            | ((with_reducible refine kLoad ?_); refine kld1A H ?_)
            | ((fail_if_success (with_reducible refine kCall ?_)); (with_reducible refine kCons ?_); refine wpK_step (fun K hK => ?_); go_simp; refine hK _ ?_; clear hK K))
        refine wpK_step (fun K hK => ?_)
        go_simp
        apply Exists.intro
        refine ⟨fun sx => ?_, hK _ ?_⟩
        · go_at_call 81
          exact by rw [← HD.out]; exact (Cmp_any q.den 1000 c2 _ (by omega) (by decide +kernel) k2).mono fun _ _ h => ⟨h.1, h.2 ▸ Below.refl _ _⟩
        clear hK K
        repeat (first
            | ((with_reducible refine kBui ?_); refine wpK_step (fun K hK => ?_); go_simp; refine hK _ ?_; clear hK K)
            | (refine kskA ?_)
            | ((with_reducible refine kLoad ?_); refine kldA H ?_)
            | ((with_reducible refine kLoad ?_); refine kld1A H ?_)
            | ((fail_if_success (with_reducible refine kCall ?_)); (with_reducible refine kCons ?_); refine wpK_step (fun K hK => ?_); go_simp; refine hK _ ?_; clear hK K))
        refine wpKeep_nil ?_
        clear H
        intro _ H
        go_wp2_with (first
            | go_skip
            | ((with_reducible refine isBox ?_); refine bxA H ?_; clear H; intro _ _ H))
        go_ret
        exact ⟨by simp [*], H.out.bel⟩
      · have d3 : decide (c1 ≤ 0) = false := decide_eq_false h3
        go_enter Tryz.func72, Tryz.ntmps72
        go_wp2_with (first
            | go_skip
            | ((with_reducible refine isBox ?_); refine bxA H ?_; clear H; intro _ _ H))
        refine wp_region_E H (by kernel_rfl) (by kernel_rfl) ?_
        repeat (first
            | ((with_reducible refine kBui ?_); refine wpK_step (fun K hK => ?_); go_simp; refine hK _ ?_; clear hK K)
            | (refine kskA ?_)
            | ((with_reducible refine kLoad ?_); refine kldA H ?_)
            | ((with_reducible refine kLoad ?_); refine kld1A H ?_)
            | ((fail_if_success (with_reducible refine kCall ?_)); (with_reducible refine kCons ?_); refine wpK_step (fun K hK => ?_); go_simp; refine hK _ ?_; clear hK K))
        refine wpK_step (fun K hK => ?_)
        go_simp
        apply Exists.intro
        refine ⟨fun sx => ?_, hK _ ?_⟩
        · go_at_call 70
          exact by rw [← HN.out, ← HD.out]; exact Good_any (some q) _ S.out (H.out.tbx sx)
        clear hK K
        repeat (first
            | ((with_reducible refine kBui ?_); refine wpK_step (fun K hK => ?_); go_simp; refine hK _ ?_; clear hK K)
            | (refine kskA ?_)
            | ((with_reducible refine kLoad ?_); refine kldA H ?_)
            | ((with_reducible refine kLoad ?_); refine kld1A H ?_)
            | ((fail_if_success (with_reducible refine kCall ?_)); (with_reducible refine kCons ?_); refine wpK_step (fun K hK => ?_); go_simp; refine hK _ ?_; clear hK K))
        refine wpK_step (fun K hK => ?_)
        go_simp
        apply Exists.intro
        refine ⟨fun sx => ?_, hK _ ?_⟩
        · go_at_call 82
          exact natOf_any 1000000 _ (by decide)
        clear hK K
        repeat (first
            | ((with_reducible refine kBui ?_); refine wpK_step (fun K hK => ?_); go_simp; refine hK _ ?_; clear hK K)
            | (refine kskA ?_)
            | ((with_reducible refine kLoad ?_); refine kldA H ?_)
            | ((with_reducible refine kLoad ?_); refine kld1A H ?_)
            | ((fail_if_success (with_reducible refine kCall ?_)); (with_reducible refine kCons ?_); refine wpK_step (fun K hK => ?_); go_simp; refine hK _ ?_; clear hK K))
        refine wpK_step (fun K hK => ?_)
        go_simp
        apply Exists.intro
        refine ⟨fun sx => ?_, hK _ ?_⟩
        · go_at_call 81
          exact by rw [← HN.out]; exact (Cmp_any q.num.natAbs 1000000 c1 _ (by omega) (by decide +kernel) k1).mono fun _ _ h => ⟨h.1, h.2 ▸ Below.refl _ _⟩
        clear hK K
        repeat (first
            | ((with_reducible refine kBui ?_); refine wpK_step (fun K hK => ?_); go_simp; refine hK _ ?_; clear hK K)
            | (refine kskA ?_)
            | ((with_reducible refine kLoad ?_); refine kldA H ?_)
            | ((with_reducible refine kLoad ?_); refine kld1A H ?_)
            | ((fail_if_success (with_reducible refine kCall ?_)); (with_reducible refine kCons ?_); refine wpK_step (fun K hK => ?_); go_simp; refine hK _ ?_; clear hK K))
        refine wpKeep_nil ?_
        clear H
        intro _ H
        go_wp2_with (first
            | go_skip
            | ((with_reducible refine isBox ?_); refine bxA H ?_; clear H; intro _ _ H))
        go_ret
        exact ⟨by simp [*], H.out.bel⟩
    · have d2 : decide ((D.size : Int) ≤ 2) = false := decide_eq_false (by omega)
      go_enter Tryz.func72, Tryz.ntmps72
      go_wp2_with (first
          | go_skip
          | ((with_reducible refine isBox ?_); refine bxA H ?_; clear H; intro _ _ H))
      refine wp_region_E H (by kernel_rfl) (by kernel_rfl) ?_
      repeat (first
          | ((with_reducible refine kBui ?_); refine wpK_step (fun K hK => ?_); go_simp; refine hK _ ?_; clear hK K)
          | (refine kskA ?_)
          | ((with_reducible refine kLoad ?_); refine kldA H ?_)
          | ((with_reducible refine kLoad ?_); refine kld1A H ?_)
          | ((fail_if_success (with_reducible refine kCall ?_)); (with_reducible refine kCons ?_); refine wpK_step (fun K hK => ?_); go_simp; refine hK _ ?_; clear hK K))
      refine wpKeep_nil ?_
      clear H
      intro _ H
      go_wp2_with (first
          | go_skip
          | ((with_reducible refine isBox ?_); refine bxA H ?_; clear H; intro _ _ H))
      go_ret
      exact ⟨by simp [*], H.out.bel⟩
  · have d1 : decide ((N.size : Int) ≤ 3) = false := decide_eq_false (by omega)
    go_enter Tryz.func72, Tryz.ntmps72
    go_wp2_with (first
        | go_skip
        | ((with_reducible refine isBox ?_); refine bxA H ?_; clear H; intro _ _ H))
    refine wp_region_E H (by kernel_rfl) (by kernel_rfl) ?_
    repeat (first
        | ((with_reducible refine kBui ?_); refine wpK_step (fun K hK => ?_); go_simp; refine hK _ ?_; clear hK K)
        | (refine kskA ?_)
        | ((with_reducible refine kLoad ?_); refine kldA H ?_)
        | ((with_reducible refine kLoad ?_); refine kld1A H ?_)
        | ((fail_if_success (with_reducible refine kCall ?_)); (with_reducible refine kCons ?_); refine wpK_step (fun K hK => ?_); go_simp; refine hK _ ?_; clear hK K))
    refine wpKeep_nil ?_
    clear H
    intro _ H
    go_wp2_with (first
        | go_skip
        | ((with_reducible refine isBox ?_); refine bxA H ?_; clear H; intro _ _ H))
    go_ret
    exact ⟨by simp [*], H.out.bel⟩
end Go.Proofs.YtaiokjhjakdhaaaGreatDoor
