/- Trees of statements in memory. No walk. Printed by gen/job.py. · rat.Small. Printed by gen/job.py. -/
import Derived.Test.YtbphdmnomakeoaaDoorJw21
import Derived.Test.YtbphdmnomakeoaaDoorJw19
import Derived.Test.YtbphdmnomakeoaaDoorJw12
namespace Go.Proofs.YtbphdmnomakeoaaDoor
open Go.RowKit
set_option linter.unusedVariables false
set_option maxRecDepth 100000

/-- A statement: its kind, names, tolerance, number and blocks. -/
inductive Stm
  | mk (k : Int) (a b : ByteArray) (wd : Option Rat) (n : Int) (bl : List (List Stm))
def Stm.k : Stm → Int | .mk k _ _ _ _ _ => k
def Stm.a : Stm → ByteArray | .mk _ a _ _ _ _ => a
def Stm.b : Stm → ByteArray | .mk _ _ b _ _ _ => b
def Stm.wd : Stm → Option Rat | .mk _ _ _ wd _ _ => wd
def Stm.n : Stm → Int | .mk _ _ _ _ n _ => n
def Stm.bl : Stm → List (List Stm) | .mk _ _ _ _ _ bl => bl
/-- A statement's cells. -/
structure Sv where
  k : Int
  a : ByteArray
  b : ByteArray
  wd : Option Rat
  n : Int
  bv : Value
def Sv.cells (x : Sv) : List Value := [.int .i64 x.k, .string x.a, .string x.b, .bool (sgO x.wd), .string (nuO x.wd), .string (deO x.wd), .int .i64 x.n, x.bv]
theorem Sv.len (x : Sv) : x.cells.length = 8 := rfl
def one (v : Value) : List Value := [v]
theorem one_len (v : Value) : (one v).length = 1 := rfl
/-- What any statement that lies in memory is: its numbers fit, its texts are not too long. -/
structure Sv.ok (v : Sv) : Prop where
  k : -9223372036854775808 ≤ v.k ∧ v.k ≤ 9223372036854775807
  n : -9223372036854775808 ≤ v.n ∧ v.n ≤ 9223372036854775807
  a : v.a.size ≤ maxLen
  b : v.b.size ≤ maxLen
  w : SmO v.wd
/-- The statement s, of at most d blocks within each other, lies in the blocks E. -/
def RSt (E : Ents) : Nat → Stm → Sv → Prop
  | 0, _, _ => False
  | d + 1, s, v => v.ok ∧ v.k = s.k ∧ v.a = s.a ∧ v.b = s.b ∧ v.wd = s.wd ∧ v.n = s.n ∧ ∃ bvs : List Value, RowIn E 56 1 v.bv bvs.length (flat one bvs) ∧
      All2 (fun b x => ∃ svs : List Sv, RowIn E 53 8 x svs.length (flat Sv.cells svs) ∧ All2 (RSt E d) b svs) s.bl bvs
/-- Statements in a row. -/
def RSs (E : Ents) (d : Nat) (l : List Stm) (x : Value) : Prop := ∃ svs : List Sv, RowIn E 53 8 x svs.length (flat Sv.cells svs) ∧ All2 (RSt E d) l svs
theorem RSt.ok {E : Ents} {d : Nat} {s : Stm} {v : Sv} (h : RSt E d s v) : v.ok := by cases d with | zero => exact h.elim | succ d => exact h.1
theorem RSt.bl {E : Ents} {d : Nat} {s : Stm} {v : Sv} (h : RSt E (d + 1) s v) : ∃ bvs : List Value, RowIn E 56 1 v.bv bvs.length (flat one bvs) ∧ All2 (RSs E d) s.bl bvs := h.2.2.2.2.2.2
theorem RSt.mono {E E' : Ents} (hs : ∀ x ∈ E, x ∈ E') : ∀ {d : Nat} {s : Stm} {v : Sv}, RSt E d s v → RSt E' d s v
  | 0, _, _, h => h
  | d + 1, _, _, ⟨h0, h1, h2, h3, h4, h5, bvs, h6, h7⟩ => ⟨h0, h1, h2, h3, h4, h5, bvs, h6.mono hs, h7.mono fun _ _ ⟨svs, g1, g2⟩ => ⟨svs, g1.mono hs, g2.mono fun _ _ g => RSt.mono hs g⟩⟩
theorem RSs.mono {E E' : Ents} (hs : ∀ x ∈ E, x ∈ E') {d : Nat} {l : List Stm} {x : Value} (h : RSs E d l x) : RSs E' d l x := by
  obtain ⟨svs, h1, h2⟩ := h
  exact ⟨svs, h1.mono hs, h2.mono fun _ _ g => RSt.mono hs g⟩
theorem rStm8 : RowT Tryd.prog 53 8 := ⟨⟨_, Tryd.underlying53, rfl⟩, by kernel_rfl⟩
theorem rJob : RowT Tryd.prog 58 2 := ⟨⟨_, Tryd.underlying58, rfl⟩, by kernel_rfl⟩
theorem rWks : RowT Tryd.prog 31 8 := ⟨⟨_, Tryd.underlying31, rfl⟩, by kernel_rfl⟩
theorem rRat : RowT Tryd.prog 29 3 := ⟨⟨_, Tryd.underlying29, rfl⟩, by kernel_rfl⟩
theorem rArm : RowT Tryd.prog 78 12 := ⟨⟨_, Tryd.underlying78, rfl⟩, by kernel_rfl⟩
theorem rPrt : RowT Tryd.prog 47 12 := ⟨⟨_, Tryd.underlying47, rfl⟩, by kernel_rfl⟩
theorem rSlo : RowT Tryd.prog 49 14 := ⟨⟨_, Tryd.underlying49, rfl⟩, by kernel_rfl⟩
theorem rGoa : RowT Tryd.prog 35 4 := ⟨⟨_, Tryd.underlying35, rfl⟩, by kernel_rfl⟩
theorem kInt : ∃ d, Tryd.prog.underlying 3 = some d ∧ d.isRow = false := ⟨_, Tryd.underlying3, rfl⟩
theorem sInt : (Tryd.prog.info? 3).map (·.size) = some 1 := by kernel_rfl
theorem kStr : ∃ d, Tryd.prog.underlying 9 = some d ∧ d.isRow = false := ⟨_, Tryd.underlying9, rfl⟩
theorem sStr : (Tryd.prog.info? 9).map (·.size) = some 1 := by kernel_rfl
theorem kBool : ∃ d, Tryd.prog.underlying 4 = some d ∧ d.isRow = false := ⟨_, Tryd.underlying4, rfl⟩
theorem sBool : (Tryd.prog.info? 4).map (·.size) = some 1 := by kernel_rfl
theorem kStl : ∃ d, Tryd.prog.underlying 56 = some d ∧ d.isRow = false := ⟨_, Tryd.underlying56, rfl⟩
theorem sStl : (Tryd.prog.info? 56).map (·.size) = some 1 := by kernel_rfl
theorem kBll : ∃ d, Tryd.prog.underlying 51 = some d ∧ d.isRow = false := ⟨_, Tryd.underlying51, rfl⟩
theorem sBll : (Tryd.prog.info? 51).map (·.size) = some 1 := by kernel_rfl
theorem kArl : ∃ d, Tryd.prog.underlying 23 = some d ∧ d.isRow = false := ⟨_, Tryd.underlying23, rfl⟩
theorem sArl : (Tryd.prog.info? 23).map (·.size) = some 1 := by kernel_rfl
theorem kPrl : ∃ d, Tryd.prog.underlying 25 = some d ∧ d.isRow = false := ⟨_, Tryd.underlying25, rfl⟩
theorem sPrl : (Tryd.prog.info? 25).map (·.size) = some 1 := by kernel_rfl
theorem kSll : ∃ d, Tryd.prog.underlying 26 = some d ∧ d.isRow = false := ⟨_, Tryd.underlying26, rfl⟩
theorem sSll : (Tryd.prog.info? 26).map (·.size) = some 1 := by kernel_rfl
theorem kGal : ∃ d, Tryd.prog.underlying 27 = some d ∧ d.isRow = false := ⟨_, Tryd.underlying27, rfl⟩
theorem sGal : (Tryd.prog.info? 27).map (·.size) = some 1 := by kernel_rfl
theorem zRat : (Tryd.prog.info? 29).bind (·.zero) = some (.agg #[.bool false, .string ⟨#[]⟩, .string ⟨#[]⟩]) := by kernel_rfl
theorem zGoa : (Tryd.prog.info? 35).bind (·.zero) = some (.agg #[.int .i64 0, .int .i64 0, .int .i64 0, .int .i64 0]) := by kernel_rfl
end Go.Proofs.YtbphdmnomakeoaaDoor

namespace Go.Proofs.YtbphdmnomakeoaaDoor
open Go.RowKit
set_option linter.unusedVariables false
set_option maxRecDepth 100000

/-- A number within the limits. -/
def smallQ (q : Rat) : Bool := decide ((nS q.num.natAbs).size ≤ 3) && (decide ((nS q.den).size ≤ 2) && (decide (cmpN q.num.natAbs 1000000 ≤ 0) && decide (cmpN q.den 1000 ≤ 0)))
set_option maxHeartbeats 4000000 in
theorem RSmall_any (q : Rat) (w : World) (hs : SmO (some q)) (hT : Tb w) :
    Calls Tryd.prog 66 #[.agg #[.bool (sgO (some q)), .string (nuO (some q)), .string (deO (some q))]] w fun e w' => e = .returned (.bool (smallQ q)) ∧ Below w.heap.size w w' := by
  have H := Lib.hid (Hp.start hT)
  have S := Lib.hid hs
  have hn : (nS q.num.natAbs).size ≤ 10000 := hs.n
  have hd : (nS q.den).size ≤ 10000 := hs.d
  obtain ⟨c1, e1⟩ : ∃ c, cmpN q.num.natAbs 1000000 = c := ⟨_, rfl⟩
  obtain ⟨c2, e2⟩ : ∃ c, cmpN q.den 1000 = c := ⟨_, rfl⟩
  obtain ⟨N, hN⟩ : ∃ N, nuO (some q) = N := ⟨_, rfl⟩
  obtain ⟨D, hD⟩ : ∃ D, deO (some q) = D := ⟨_, rfl⟩
  have k1 := Lib.hid e1
  have k2 := Lib.hid e2
  have HN := Lib.hid hN
  have HD := Lib.hid hD
  have R : Hid (smallQ q = (decide (N.size ≤ 3) && (decide (D.size ≤ 2) && (decide (c1 ≤ 0) && decide (c2 ≤ 0))))) := Lib.hid (by rw [← hN, ← hD, ← e1, ← e2]; rfl)
  rw [hN, hD, R.out]
  clear e1 e2 hN hD hT hs
  by_cases h1 : N.size ≤ 3
  · have d1 : decide ((N.size : Int) ≤ 3) = true := decide_eq_true (by omega)
    by_cases h2 : D.size ≤ 2
    · have d2 : decide ((D.size : Int) ≤ 2) = true := decide_eq_true (by omega)
      by_cases h3 : c1 ≤ 0
      · have d3 : decide (c1 ≤ 0) = true := decide_eq_true h3
        go_enter Tryd.func66, Tryd.ntmps66
        go_wp2_with (first
            | go_skip
            | ((with_reducible refine isBox ?_); refine bxA H ?_; clear H; intro _ _ H))
        refine wp_region_E H (by kernel_rfl) (by kernel_rfl) ?_
        repeat (first
            | ((with_reducible refine kBui ?_); refine wpK_step (fun K hK => ?_); go_simp; refine hK _ ?_; clear hK K)
            | (refine kskA ?_)
            | ((with_reducible refine kLoad ?_); refine kldA H ?_)
            | ((with_reducible refine kLoad ?_); refine kld1A H ?_)
            | ((fail_if_success (with_reducible refine kCall ?_)); (with_reducible refine kCons ?_); refine wpK_step (fun K hK => ?_); go_simp; refine hK _ ?_; clear hK K))
        refine wpK_step (fun K hK => ?_)
        go_simp
        apply Exists.intro
        refine ⟨fun sx => ?_, hK _ ?_⟩
        · go_at_call 47
          exact by rw [← HN.out, ← HD.out]; exact Good_any (some q) _ S.out (H.out.tbx sx)
        clear hK K
        repeat (first
            | ((with_reducible refine kBui ?_); refine wpK_step (fun K hK => ?_); go_simp; refine hK _ ?_; clear hK K)
            | (refine kskA ?_)
            | ((with_reducible refine kLoad ?_); refine kldA H ?_)
            | ((with_reducible refine kLoad ?_); refine kld1A H ?_)
            | ((fail_if_success (with_reducible refine kCall ?_)); (with_reducible refine kCons ?_); refine wpK_step (fun K hK => ?_); go_simp; refine hK _ ?_; clear hK K))
        refine wpK_step (fun K hK => ?_)
        go_simp
        apply Exists.intro
        refine ⟨fun sx => ?_, hK _ ?_⟩
        · go_at_call 76
          exact natOf_any 1000000 _ (by decide)
        clear hK K
        repeat (first
            | ((with_reducible refine kBui ?_); refine wpK_step (fun K hK => ?_); go_simp; refine hK _ ?_; clear hK K)
            | (refine kskA ?_)
            | ((with_reducible refine kLoad ?_); refine kldA H ?_)
            | ((with_reducible refine kLoad ?_); refine kld1A H ?_)
            | ((fail_if_success (with_reducible refine kCall ?_)); (with_reducible refine kCons ?_); refine wpK_step (fun K hK => ?_); go_simp; refine hK _ ?_; clear hK K))
        refine wpK_step (fun K hK => ?_)
        go_simp
        apply Exists.intro
        refine ⟨fun sx => ?_, hK _ ?_⟩
        · go_at_call 36
          exact by rw [← HN.out]; exact (Cmp_any q.num.natAbs 1000000 c1 _ (by omega) (by decide +kernel) k1).mono fun _ _ h => ⟨h.1, h.2 ▸ Below.refl _ _⟩
        clear hK K
        repeat (first
            | ((with_reducible refine kBui ?_); refine wpK_step (fun K hK => ?_); go_simp; refine hK _ ?_; clear hK K)
            | (refine kskA ?_)
            | ((with_reducible refine kLoad ?_); refine kldA H ?_)
            | ((with_reducible refine kLoad ?_); refine kld1A H ?_)
            | ((fail_if_success (with_reducible refine kCall ?_)); (with_reducible refine kCons ?_); refine wpK_step (fun K hK => ?_); go_simp; refine hK _ ?_; clear hK K))
        refine wpK_step (fun K hK => ?_)
        go_simp
        apply Exists.intro
        refine ⟨fun sx => ?_, hK _ ?_⟩
        · go_at_call 76
          exact natOf_any 1000 _ (by decide)
        clear hK K
        repeat (first
            | ((with_reducible refine kBui ?_); refine wpK_step (fun K hK => ?_); go_simp; refine hK _ ?_; clear hK K)
            | (refine kskA ?_)
            | ((with_reducible refine kLoad ?_); refine kldA H ?_)
            | ((with_reducible refine kLoad ?_); refine kld1A H ?_)
            | ((fail_if_success (with_reducible refine kCall ?_)); (with_reducible refine kCons ?_); refine wpK_step (fun K hK => ?_); go_simp; refine hK _ ?_; clear hK K))
        refine wpK_step (fun K hK => ?_)
        go_simp
        apply Exists.intro
        refine ⟨fun sx => ?_, hK _ ?_⟩
        · go_at_call 36
          exact by rw [← HD.out]; exact (Cmp_any q.den 1000 c2 _ (by omega) (by decide +kernel) k2).mono fun _ _ h => ⟨h.1, h.2 ▸ Below.refl _ _⟩
        clear hK K
        repeat (first
            | ((with_reducible refine kBui ?_); refine wpK_step (fun K hK => ?_); go_simp; refine hK _ ?_; clear hK K)
            | (refine kskA ?_)
            | ((with_reducible refine kLoad ?_); refine kldA H ?_)
            | ((with_reducible refine kLoad ?_); refine kld1A H ?_)
            | ((fail_if_success (with_reducible refine kCall ?_)); (with_reducible refine kCons ?_); refine wpK_step (fun K hK => ?_); go_simp; refine hK _ ?_; clear hK K))
        refine wpKeep_nil ?_
        clear H
        intro _ H
        go_wp2_with (first
            | go_skip
            | ((with_reducible refine isBox ?_); refine bxA H ?_; clear H; intro _ _ H))
        go_ret
        exact ⟨by simp [*], H.out.bel⟩
      · have d3 : decide (c1 ≤ 0) = false := decide_eq_false h3
        go_enter Tryd.func66, Tryd.ntmps66
        go_wp2_with (first
            | go_skip
            | ((with_reducible refine isBox ?_); refine bxA H ?_; clear H; intro _ _ H))
        refine wp_region_E H (by kernel_rfl) (by kernel_rfl) ?_
        repeat (first
            | ((with_reducible refine kBui ?_); refine wpK_step (fun K hK => ?_); go_simp; refine hK _ ?_; clear hK K)
            | (refine kskA ?_)
            | ((with_reducible refine kLoad ?_); refine kldA H ?_)
            | ((with_reducible refine kLoad ?_); refine kld1A H ?_)
            | ((fail_if_success (with_reducible refine kCall ?_)); (with_reducible refine kCons ?_); refine wpK_step (fun K hK => ?_); go_simp; refine hK _ ?_; clear hK K))
        refine wpK_step (fun K hK => ?_)
        go_simp
        apply Exists.intro
        refine ⟨fun sx => ?_, hK _ ?_⟩
        · go_at_call 47
          exact by rw [← HN.out, ← HD.out]; exact Good_any (some q) _ S.out (H.out.tbx sx)
        clear hK K
        repeat (first
            | ((with_reducible refine kBui ?_); refine wpK_step (fun K hK => ?_); go_simp; refine hK _ ?_; clear hK K)
            | (refine kskA ?_)
            | ((with_reducible refine kLoad ?_); refine kldA H ?_)
            | ((with_reducible refine kLoad ?_); refine kld1A H ?_)
            | ((fail_if_success (with_reducible refine kCall ?_)); (with_reducible refine kCons ?_); refine wpK_step (fun K hK => ?_); go_simp; refine hK _ ?_; clear hK K))
        refine wpK_step (fun K hK => ?_)
        go_simp
        apply Exists.intro
        refine ⟨fun sx => ?_, hK _ ?_⟩
        · go_at_call 76
          exact natOf_any 1000000 _ (by decide)
        clear hK K
        repeat (first
            | ((with_reducible refine kBui ?_); refine wpK_step (fun K hK => ?_); go_simp; refine hK _ ?_; clear hK K)
            | (refine kskA ?_)
            | ((with_reducible refine kLoad ?_); refine kldA H ?_)
            | ((with_reducible refine kLoad ?_); refine kld1A H ?_)
            | ((fail_if_success (with_reducible refine kCall ?_)); (with_reducible refine kCons ?_); refine wpK_step (fun K hK => ?_); go_simp; refine hK _ ?_; clear hK K))
        refine wpK_step (fun K hK => ?_)
        go_simp
        apply Exists.intro
        refine ⟨fun sx => ?_, hK _ ?_⟩
        · go_at_call 36
          exact by rw [← HN.out]; exact (Cmp_any q.num.natAbs 1000000 c1 _ (by omega) (by decide +kernel) k1).mono fun _ _ h => ⟨h.1, h.2 ▸ Below.refl _ _⟩
        clear hK K
        repeat (first
            | ((with_reducible refine kBui ?_); refine wpK_step (fun K hK => ?_); go_simp; refine hK _ ?_; clear hK K)
            | (refine kskA ?_)
            | ((with_reducible refine kLoad ?_); refine kldA H ?_)
            | ((with_reducible refine kLoad ?_); refine kld1A H ?_)
            | ((fail_if_success (with_reducible refine kCall ?_)); (with_reducible refine kCons ?_); refine wpK_step (fun K hK => ?_); go_simp; refine hK _ ?_; clear hK K))
        refine wpKeep_nil ?_
        clear H
        intro _ H
        go_wp2_with (first
            | go_skip
            | ((with_reducible refine isBox ?_); refine bxA H ?_; clear H; intro _ _ H))
        go_ret
        exact ⟨by simp [*], H.out.bel⟩
    · have d2 : decide ((D.size : Int) ≤ 2) = false := decide_eq_false (by omega)
      go_enter Tryd.func66, Tryd.ntmps66
      go_wp2_with (first
          | go_skip
          | ((with_reducible refine isBox ?_); refine bxA H ?_; clear H; intro _ _ H))
      refine wp_region_E H (by kernel_rfl) (by kernel_rfl) ?_
      repeat (first
          | ((with_reducible refine kBui ?_); refine wpK_step (fun K hK => ?_); go_simp; refine hK _ ?_; clear hK K)
          | (refine kskA ?_)
          | ((with_reducible refine kLoad ?_); refine kldA H ?_)
          | ((with_reducible refine kLoad ?_); refine kld1A H ?_)
          | ((fail_if_success (with_reducible refine kCall ?_)); (with_reducible refine kCons ?_); refine wpK_step (fun K hK => ?_); go_simp; refine hK _ ?_; clear hK K))
      refine wpKeep_nil ?_
      clear H
      intro _ H
      go_wp2_with (first
          | go_skip
          | ((with_reducible refine isBox ?_); refine bxA H ?_; clear H; intro _ _ H))
      go_ret
      exact ⟨by simp [*], H.out.bel⟩
  · have d1 : decide ((N.size : Int) ≤ 3) = false := decide_eq_false (by omega)
    go_enter Tryd.func66, Tryd.ntmps66
    go_wp2_with (first
        | go_skip
        | ((with_reducible refine isBox ?_); refine bxA H ?_; clear H; intro _ _ H))
    refine wp_region_E H (by kernel_rfl) (by kernel_rfl) ?_
    repeat (first
        | ((with_reducible refine kBui ?_); refine wpK_step (fun K hK => ?_); go_simp; refine hK _ ?_; clear hK K)
        | (refine kskA ?_)
        | ((with_reducible refine kLoad ?_); refine kldA H ?_)
        | ((with_reducible refine kLoad ?_); refine kld1A H ?_)
        | ((fail_if_success (with_reducible refine kCall ?_)); (with_reducible refine kCons ?_); refine wpK_step (fun K hK => ?_); go_simp; refine hK _ ?_; clear hK K))
    refine wpKeep_nil ?_
    clear H
    intro _ H
    go_wp2_with (first
        | go_skip
        | ((with_reducible refine isBox ?_); refine bxA H ?_; clear H; intro _ _ H))
    go_ret
    exact ⟨by simp [*], H.out.bel⟩
end Go.Proofs.YtbphdmnomakeoaaDoor
