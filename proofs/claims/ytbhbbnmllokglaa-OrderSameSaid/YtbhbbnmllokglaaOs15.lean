/- The walks of slices.Index, Contains, Equal at facts, fact.Has. · The worlds of the package act, what is asked of them, and the walks of Held, Index, Contains, Holds, In. · The walks of act.Holds, In, Where, Form, target. · Steps; the walks of act.Form and target. · The walk of act.may. · The walk of act.Check at a valid world. · The walk of act.Can at a valid world. -/
import Derived.Test.YtbhbbnmllokglaaOs13
import Derived.BigQuiet
import Derived.Test.YtbhbbnmllokglaaOs1
namespace Go.Proofs.Ytbhbbnmllokglaa
open Go.RowKit
set_option linter.unusedVariables false
set_option maxRecDepth 100000

def RF (w : World) (A : Option Addr) (fs : List Fct) : Prop := RK Fct.cells 3 w A fs
theorem RF.at {w : World} {A : Option Addr} {fs : List Fct} (h : RF w A fs) {j : Nat} {f : Fct} (hj : fs[j]? = some f) : ∃ b o, A = some ⟨b, o, none⟩ ∧ b < w.heap.size ∧ w.cell? ⟨b, o + j * 3, none⟩ = some (.int .i64 f.k) ∧ w.cell? ⟨b, o + j * 3 + 1, none⟩ = some (.int .i64 f.a) ∧ w.cell? ⟨b, o + j * 3 + 2, none⟩ = some (.int .i64 f.b) := by
  obtain ⟨b, o, hA, hb, hc⟩ := h (by have := lt_of_at hj; omega)
  exact ⟨b, o, hA, hb, hc j f 0 _ hj rfl, hc j f 1 _ hj rfl, hc j f 2 _ hj rfl⟩

abbrev Fct.v (f : Fct) : Value := .agg #[.int .i64 f.k, .int .i64 f.a, .int .i64 f.b]
end Go.Proofs.Ytbhbbnmllokglaa

namespace Go.Proofs.Ytbhbbnmllokglaa
open Go.RowKit
set_option linter.unusedVariables false
set_option maxRecDepth 100000

structure AW where
  slots : Int
  place : List Int
  seen : List Bool
  spot : List Int
  deriving DecidableEq
def RBo (w : World) (A : Option Addr) (bs : List Bool) : Prop := RK (fun b : Bool => [Value.bool b]) 1 w A bs
theorem RBo.at {w : World} {A : Option Addr} {bs : List Bool} (h : RBo w A bs) {j : Nat} {x : Bool} (hj : bs[j]? = some x) : ∃ b o, A = some ⟨b, o, none⟩ ∧ b < w.heap.size ∧ w.cell? ⟨b, o + j, none⟩ = some (.bool x) := by
  obtain ⟨b, o, hA, hb, hc⟩ := h (by have := lt_of_at hj; omega)
  refine ⟨b, o, hA, hb, ?_⟩
  have := hc j x 0 _ hj rfl
  simpa using this
/-- The three slices of a world. -/
structure RA (w : World) (x : AW) (A1 A2 A3 : Option Addr) : Prop where
  place : RI w A1 x.place
  seen : RBo w A2 x.seen
  spot : RI w A3 x.spot
theorem RA.below {w w' : World} {x : AW} {A1 A2 A3 : Option Addr} (h : RA w x A1 A2 A3) (hb : Below w.heap.size w w') : RA w' x A1 A2 A3 := ⟨h.place.below hb, RK.below h.seen hb, h.spot.below hb⟩

def ixo : Option Nat → Int
  | none => -1
  | some k => k
def idxI (xs : List Int) (v : Int) : Int := ixo (xs.idxOf? v)
theorem idxI_no {xs : List Int} {v : Int} (h : v ∉ xs) : idxI xs v = -1 := by
  unfold idxI
  rw [List.idxOf?_eq_none_iff.2 h]
  rfl
theorem idxI_at : ∀ {xs : List Int} {v : Int} {k : Nat}, xs[k]? = some v → v ∉ xs.take k → idxI xs v = k := by
  intro xs
  induction xs with
  | nil => intro v k h; simp at h
  | cons x xs ih =>
    intro v k h hn
    unfold idxI
    rw [List.idxOf?_cons]
    cases k with
    | zero => simp at h; subst h; simp [ixo]
    | succ k =>
      have hx : x ≠ v := fun e => hn (by rw [List.take_succ_cons, e]; exact List.mem_cons_self)
      have h2 := ih (v := v) (k := k) (by simpa using h) (fun hm => hn (by rw [List.take_succ_cons]; exact List.mem_cons_of_mem _ hm))
      rw [if_neg (by simpa using hx)]
      unfold idxI at h2
      cases hq : xs.idxOf? v with
      | none => rw [hq] at h2; simp [ixo] at h2
      | some q => rw [hq] at h2; simp only [ixo, Option.map_some] at h2 ⊢; omega
theorem idxI_cases (xs : List Int) (v : Int) : (idxI xs v = -1 ∧ v ∉ xs) ∨ ∃ k : Nat, idxI xs v = k ∧ xs[k]? = some v ∧ v ∉ xs.take k := by
  by_cases h : v ∈ xs
  · right
    obtain ⟨k, hk, hmin⟩ : ∃ k, xs[k]? = some v ∧ v ∉ xs.take k := by
      induction xs with
      | nil => simp at h
      | cons x xs ih =>
        by_cases e : x = v
        · exact ⟨0, by simp [e], by simp⟩
        · obtain ⟨k, h1, h2⟩ := ih (by simpa [Ne.symm e] using h)
          exact ⟨k + 1, by simpa using h1, by rw [List.take_succ_cons]; simpa [Ne.symm e] using h2⟩
    exact ⟨k, idxI_at hk hmin, hk, hmin⟩
  · exact .inl ⟨idxI_no h, h⟩

set_option maxHeartbeats 1000000 in
theorem indexI_any (A : Option Addr) (n c : Nat) (xs : List Int) (v : Int) (r : Int) (w : World) (hR : RI w A xs) (hn : xs.length = n) (hm : n ≤ 1000) (hr : Hid (idxI xs v = r)) :
    Calls Try.prog 26 #[.slice A n c, .int .i64 v] w fun e w' => e = .returned (.int .i64 r) ∧ w = w' := by
  subst hn
  have HR := Lib.hid hR; clear hR
  go_enter Try.func26, Try.ntmps26
  go_wp2
  go_loop [8] (fun i => ∃ k : Nat, k ≤ xs.length ∧ i = .int .i64 k ∧ Hid (v ∉ xs.take k)) (fun i => xs.length - (intOf i).toNat)
  case atStart => exact ⟨0, by omega, rfl, by simp [Hid]⟩
  case round =>
    obtain ⟨k, hk, rfl, hno⟩ := hrel
    by_cases hlt : k < xs.length
    · obtain ⟨x, hx⟩ := some_at hlt
      obtain ⟨b, o, rfl, hb, hc⟩ := HR.out (by omega)
      have c1 := hc k x hx
      have Hx := Lib.hid hx
      clear hc hx
      by_cases hv : v = x
      · subst hv
        have hq : (v == v) = true := by simp
        have hrk : r = k := by rw [← hr.out]; exact idxI_at Hx.out hno.out
        subst hrk
        go_wp2
        go_ret
        exact ⟨rfl, rfl⟩
      · have hq : (v == x) = false := by simpa using hv
        have Hv := Lib.hid hv
        clear hv
        go_wp2
        go_round
        case rel =>
          refine ⟨k + 1, by omega, by go_num, ?_⟩
          have := hno.out
          have h2 := Hv.out
          unfold Hid
          rw [List.take_add_one, Hx.out]
          simpa using ⟨this, h2⟩
        case measure => simp [intOf]; omega
    · have hkx : k = xs.length := by omega
      have hrk : r = -1 := by
        rw [← hr.out]
        refine idxI_no ?_
        have := hno.out
        rwa [hkx, List.take_length] at this
      subst hrk
      clear hkx
      go_wp2
      go_ret
      exact ⟨rfl, rfl⟩

set_option maxHeartbeats 1000000 in
theorem containsI_any (A : Option Addr) (n c : Nat) (xs : List Int) (v : Int) (r : Bool) (w : World) (hR : RI w A xs) (hn : xs.length = n) (hm : n ≤ 1000) (hr : Hid (r = decide (v ∈ xs))) :
    Calls Try.prog 12 #[.slice A n c, .int .i64 v] w fun e w' => e = .returned (.bool r) ∧ w = w' := by
  have HR := Lib.hid hR; clear hR
  have HN := Lib.hid hn; clear hn
  obtain ⟨q, hq⟩ : ∃ q, idxI xs v = q := ⟨_, rfl⟩
  have HQ := Lib.hid hq
  have hq2 : Hid (r = decide (0 ≤ q)) := by
    unfold Hid
    rw [hr.out, ← hq]
    rcases idxI_cases xs v with ⟨h1, h2⟩ | ⟨k, h1, h2, _⟩
    · rw [h1]; simp [h2]
    · rw [h1]; simp [List.mem_of_getElem? h2]
  clear hq
  go_enter Try.func12, Try.ntmps12
  go_wp2_with fail
  refine (indexI_any _ _ _ xs v q _ HR.out HN.out hm HQ).mono ?_
  rintro e w' ⟨rfl, rfl⟩
  go_wp2_with fail
  go_ret
  exact ⟨ret_bool hq2.out.symm, rfl⟩

theorem Held_any (a : Int) (w : World) (h1 : -100000 ≤ a) (h2 : a ≤ 100000) : Calls Try.prog 39 #[.int .i64 a] w fun e w' => e = .returned (.int .i64 (-2 - a)) ∧ w = w' := by
  have g1 : IntKind.i64.wrap (-2 - a) = -2 - a := IntWalk.i64_in _ (by omega)
  go_enter Try.func39, Try.ntmps39
  go_wp2
  go_ret
  exact ⟨rfl, rfl⟩

abbrev AW.v (x : AW) (A1 A2 A3 : Option Addr) (n1 n2 n3 c1 c2 c3 : Nat) : Value := .agg #[.int .i64 x.slots, .slice A1 n1 c1, .slice A2 n2 c2, .slice A3 n3 c3]
/-- The part that an arm holds, or -1. -/
def holdsP (x : AW) (arm : Int) : Int := if arm < 0 ∨ (x.spot.length : Int) ≤ arm then -1 else idxI x.place (-2 - arm)
def inP (x : AW) (slot : Int) : Int := if slot < 0 then -1 else idxI x.place slot
end Go.Proofs.Ytbhbbnmllokglaa

namespace Go.Proofs.Ytbhbbnmllokglaa
open Go.RowKit
set_option linter.unusedVariables false
set_option maxRecDepth 100000

/-- A world's value is read, and its lengths are small. -/
structure RW4 (w : World) (x : AW) (A1 A2 A3 : Option Addr) (n1 n2 n3 c1 c2 c3 : Nat) : Prop where
  ra : RA w x A1 A2 A3
  l1 : x.place.length = n1
  l2 : x.seen.length = n2
  l3 : x.spot.length = n3
  b1 : n1 ≤ 100
  b2 : n2 ≤ 100
  b3 : n3 ≤ 100
  k1 : n1 ≤ c1
  k2 : n2 ≤ c2
  k3 : n3 ≤ c3
theorem RW4.below {w w' : World} {x : AW} {A1 A2 A3 : Option Addr} {n1 n2 n3 c1 c2 c3 : Nat} (h : RW4 w x A1 A2 A3 n1 n2 n3 c1 c2 c3) (hb : Below w.heap.size w w') : RW4 w' x A1 A2 A3 n1 n2 n3 c1 c2 c3 :=
  ⟨h.ra.below hb, h.l1, h.l2, h.l3, h.b1, h.b2, h.b3, h.k1, h.k2, h.k3⟩

section
variable (x : AW) (A1 A2 A3 : Option Addr) (n1 n2 n3 c1 c2 c3 : Nat) (w : World)
set_option maxHeartbeats 2000000 in
theorem Holds_any (hx : RW4 w x A1 A2 A3 n1 n2 n3 c1 c2 c3) (arm r : Int) (h1 : -1000 ≤ arm) (h2 : arm ≤ 1000) (hr : Hid (holdsP x arm = r)) :
    Calls Try.prog 40 #[.agg #[.int .i64 x.slots, .slice A1 n1 c1, .slice A2 n2 c2, .slice A3 n3 c3], .int .i64 arm] w fun e w' => e = .returned (.int .i64 r) ∧ Below w.heap.size w w' := by
  have H := Lib.hid hx
  have B0 := Lib.hid ((Below.refl w.heap.size w).alloc (Nat.le_refl _) (.cells #[.int .i64 x.slots, .slice A1 n1 c1, .slice A2 n2 c2, .slice A3 n3 c3] 25))
  have X0 := Lib.hid (Blk.new w 25 #[.int .i64 x.slots, .slice A1 n1 c1, .slice A2 n2 c2, .slice A3 n3 c3])
  have b3 := hx.b3
  have l3 := Lib.hid hx.l3
  clear hx
  by_cases ha : arm < 0
  · have hr2 : r = -1 := by rw [← hr.out, holdsP, if_pos (.inl ha)]
    subst hr2
    go_enter Try.func40, Try.ntmps40
    go_wp2_with fail
    go_ret
    exact ⟨rfl, B0.out⟩
  · by_cases hb : (n3 : Int) ≤ arm
    · have hr2 : r = -1 := by rw [← hr.out, holdsP, if_pos (.inr (by rw [l3.out]; exact hb))]
      subst hr2
      go_enter Try.func40, Try.ntmps40
      go_wp2_with fail
      go_ret
      exact ⟨rfl, B0.out⟩
    · have hr2 : Hid (idxI x.place (-2 - arm) = r) := by unfold Hid; rw [← hr.out, holdsP, if_neg (by rw [l3.out]; omega)]
      have R1 := Lib.hid (H.out.ra.place.below B0.out)
      go_enter Try.func40, Try.ntmps40
      go_wp2_with fail
      generalize hw3 : w.alloc (.cells #[.int .i64 x.slots, .slice A1 n1 c1, .slice A2 n2 c2, .slice A3 n3 c3] 25) = w3 at B0 X0 R1 ⊢
      clear hw3
      have x1 := fun s : Ext w3 => s.cell (X0.out.cell 1)
      refine wp_region_ext (by kernel_rfl) (by kernel_rfl) ?_
      repeat (go_big_quiet_step (fail))
      go_big_quiet_step ((go_at_call 39; refine Calls.ext_same (Held_any arm _ (by omega) (by omega))))
      go_big_quiet_step ((go_at_call 26; refine Calls.ext_same (indexI_any A1 n1 c1 x.place (-2 - arm) r _ (R1.out.below (Ext.h _)) H.out.l1 (by have := H.out.b1; omega) hr2)))
      repeat (go_big_quiet_step (fail))
      refine wpQuiet_nil ?_
      intro _ hw'
      obtain ⟨s, rfl⟩ := hw'
      go_wp2_with fail
      go_ret
      exact ⟨rfl, keep_below B0.out (Nat.le_refl _) s.h⟩

set_option maxHeartbeats 2000000 in
theorem In_any (hx : RW4 w x A1 A2 A3 n1 n2 n3 c1 c2 c3) (slot r : Int) (hr : Hid (inP x slot = r)) :
    Calls Try.prog 56 #[.agg #[.int .i64 x.slots, .slice A1 n1 c1, .slice A2 n2 c2, .slice A3 n3 c3], .int .i64 slot] w fun e w' => e = .returned (.int .i64 r) ∧ Below w.heap.size w w' := by
  have H := Lib.hid hx
  have B0 := Lib.hid ((Below.refl w.heap.size w).alloc (Nat.le_refl _) (.cells #[.int .i64 x.slots, .slice A1 n1 c1, .slice A2 n2 c2, .slice A3 n3 c3] 25))
  have R1 := Lib.hid (hx.ra.place.below B0.out)
  clear hx
  by_cases ha : slot < 0
  · have hr2 : r = -1 := by rw [← hr.out, inP, if_pos ha]
    subst hr2
    go_enter Try.func56, Try.ntmps56
    go_wp2_with fail
    go_ret
    exact ⟨rfl, B0.out⟩
  · have hr2 : Hid (idxI x.place slot = r) := by unfold Hid; rw [← hr.out, inP, if_neg ha]
    go_enter Try.func56, Try.ntmps56
    go_wp2_with fail
    refine (indexI_any A1 n1 c1 x.place slot r _ R1.out H.out.l1 (by have := H.out.b1; omega) hr2).mono ?_
    rintro e w2 ⟨rfl, rfl⟩
    go_wp2_with fail
    go_ret
    exact ⟨rfl, B0.out⟩
end

def whereP (x : AW) (part : Int) : Int :=
  if part < 0 then -1 else match x.place[part.toNat]? with
    | none => -1
    | some p => if p < -1 then -1 else if p = -1 then 8 + part else p

section
variable (x : AW) (A1 A2 A3 : Option Addr) (n1 n2 n3 c1 c2 c3 : Nat) (w : World)
set_option maxHeartbeats 2000000 in
theorem Where_any (hx : RW4 w x A1 A2 A3 n1 n2 n3 c1 c2 c3) (part r : Int) (hr : Hid (whereP x part = r)) :
    Calls Try.prog 52 #[.agg #[.int .i64 x.slots, .slice A1 n1 c1, .slice A2 n2 c2, .slice A3 n3 c3], .int .i64 part] w fun e w' => e = .returned (.int .i64 r) ∧ Below w.heap.size w w' := by
  have H := Lib.hid hx
  have B0 := Lib.hid ((Below.refl w.heap.size w).alloc (Nat.le_refl _) (.cells #[.int .i64 x.slots, .slice A1 n1 c1, .slice A2 n2 c2, .slice A3 n3 c3] 25))
  have R1 := Lib.hid (hx.ra.place.below B0.out)
  have b1 := hx.b1
  have l1 := Lib.hid hx.l1
  clear hx
  by_cases ha : part < 0
  · have hr2 : r = -1 := by rw [← hr.out, whereP, if_pos ha]
    subst hr2
    go_enter Try.func52, Try.ntmps52
    go_wp2_with fail
    go_ret
    exact ⟨rfl, B0.out⟩
  · obtain ⟨k, rfl⟩ := Int.eq_ofNat_of_zero_le (show 0 ≤ part by omega)
    by_cases hb : n1 ≤ k
    · have hr2 : r = -1 := by rw [← hr.out, whereP, if_neg ha, Int.toNat_natCast, List.getElem?_eq_none (by rw [l1.out]; exact hb)]
      subst hr2
      go_enter Try.func52, Try.ntmps52
      go_wp2_with fail
      go_ret
      exact ⟨rfl, B0.out⟩
    · obtain ⟨p, hp⟩ := some_at (l := x.place) (k := k) (by rw [l1.out]; omega)
      have hr2 : Hid ((if p < -1 then -1 else if p = -1 then (8 + (k : Int)) else p) = r) := by unfold Hid; rw [← hr.out, whereP, if_neg ha, Int.toNat_natCast, hp]
      obtain ⟨b, o, rfl, hlt, hc⟩ := R1.out (by rw [l1.out]; omega)
      have d0 := hc k p hp
      have g1 : IntKind.i64.wrap (8 + (k : Int)) = 8 + k := IntWalk.i64_in _ (by omega)
      clear hc hp hr
      by_cases hq : p < -1
      · have hr3 : r = -1 := by rw [← hr2.out, if_pos hq]
        subst hr3
        go_enter Try.func52, Try.ntmps52
        go_wp2_with fail
        go_ret
        exact ⟨rfl, B0.out⟩
      · by_cases hq1 : p = -1
        · subst hq1
          have hr3 : r = 8 + (k : Int) := by rw [← hr2.out, if_neg hq, if_pos rfl]
          subst hr3
          go_enter Try.func52, Try.ntmps52
          go_wp2_with fail
          go_ret
          exact ⟨rfl, B0.out⟩
        · have hr3 : r = p := by rw [← hr2.out, if_neg hq, if_neg hq1]
          subst hr3
          have hq2 : (r == -1) = false := by simpa using hq1
          go_enter Try.func52, Try.ntmps52
          go_wp2_with fail
          go_ret
          exact ⟨rfl, B0.out⟩
end
end Go.Proofs.Ytbhbbnmllokglaa

namespace Go.Proofs.Ytbhbbnmllokglaa
open Go.RowKit
set_option linter.unusedVariables false
set_option maxRecDepth 100000

structure St where
  kind : Int
  arm : Int
  part : Int
  slot : Int
  ticks : Int
  deriving DecidableEq
def St.cells (s : St) : List Value := [.int .i64 s.kind, .int .i64 s.arm, .int .i64 s.part, .int .i64 s.slot, .int .i64 s.ticks]
theorem St.len (s : St) : s.cells.length = 5 := rfl
theorem St.one (s : St) : ∀ v ∈ s.cells, v.oneCell' = true := by
  intro v hv
  simp [St.cells] at hv
  rcases hv with rfl | rfl | rfl | rfl | rfl <;> rfl
def formP (s : St) : Prop :=
  -1 ≤ s.part ∧ -1 ≤ s.slot ∧ 0 ≤ s.arm ∧
  (s.kind = 0 ∧ ((0 ≤ s.part ∧ s.slot < 0) ∨ (s.part < 0 ∧ 0 ≤ s.slot)) ∧ s.ticks = 0 ∨ (s.kind = 1 ∨ s.kind = 3) ∧ 0 ≤ s.part ∧ s.slot < 0 ∧ s.ticks = 0 ∨
    s.kind = 2 ∧ 0 ≤ s.slot ∧ s.part < 0 ∧ s.ticks = 0 ∨ s.kind = 4 ∧ s.part < 0 ∧ s.slot < 0 ∧ 1 ≤ s.ticks ∧ s.ticks ≤ 2000)
instance (s : St) : Decidable (formP s) := by unfold formP; infer_instance

set_option maxHeartbeats 16000000 in
theorem Form_any (s : St) (w : World) (r : Bool) (hr : Hid (r = decide (formP s))) :
    Calls Try.prog 47 #[.agg #[.int .i64 s.kind, .int .i64 s.arm, .int .i64 s.part, .int .i64 s.slot, .int .i64 s.ticks]] w fun e w' => e = .returned (.bool r) ∧ Below w.heap.size w w' := by
  obtain ⟨kind, arm, part, slot, ticks⟩ := s
  have B0 := Lib.hid ((Below.refl w.heap.size w).alloc (Nat.le_refl _) (.cells #[.int .i64 kind, .int .i64 arm, .int .i64 part, .int .i64 slot, .int .i64 ticks] 79))
  by_cases ht : ticks = 0
  · subst ht
    by_cases hp : 0 ≤ part
    · by_cases hs : 0 ≤ slot
      · have dp : decide (0 ≤ part) = true := decide_eq_true hp
        have ds : decide (0 ≤ slot) = true := decide_eq_true hs
        go_enter Try.func47, Try.ntmps47
        go_wp2
        go_quiet (fail)
        go_wp2
        all_goals
          go_ret
          refine ⟨ret_bool ?_, below_drewN B0.out _⟩
          rw [hr.out, Bool.eq_iff_iff, decide_eq_true_iff]
          (try rw [decide_eq_true_iff])
          clear hr B0
          (try simp only [beq_iff_eq, beq_eq_false_iff_ne, ne_eq] at *)
          (try simp only [Bool.false_eq_true])
          unfold formP
          dsimp only
          constructor <;> intro hh <;> first | exact hh.elim | omega | trivial
      · have dp : decide (0 ≤ part) = true := decide_eq_true hp
        have ds : decide (0 ≤ slot) = false := decide_eq_false hs
        go_enter Try.func47, Try.ntmps47
        go_wp2
        go_quiet (fail)
        go_wp2
        all_goals
          go_ret
          refine ⟨ret_bool ?_, below_drewN B0.out _⟩
          rw [hr.out, Bool.eq_iff_iff, decide_eq_true_iff]
          (try rw [decide_eq_true_iff])
          clear hr B0
          (try simp only [beq_iff_eq, beq_eq_false_iff_ne, ne_eq] at *)
          (try simp only [Bool.false_eq_true])
          unfold formP
          dsimp only
          constructor <;> intro hh <;> first | exact hh.elim | omega | trivial
    · by_cases hs : 0 ≤ slot
      · have dp : decide (0 ≤ part) = false := decide_eq_false hp
        have ds : decide (0 ≤ slot) = true := decide_eq_true hs
        go_enter Try.func47, Try.ntmps47
        go_wp2
        go_quiet (fail)
        go_wp2
        all_goals
          go_ret
          refine ⟨ret_bool ?_, below_drewN B0.out _⟩
          rw [hr.out, Bool.eq_iff_iff, decide_eq_true_iff]
          (try rw [decide_eq_true_iff])
          clear hr B0
          (try simp only [beq_iff_eq, beq_eq_false_iff_ne, ne_eq] at *)
          (try simp only [Bool.false_eq_true])
          unfold formP
          dsimp only
          constructor <;> intro hh <;> first | exact hh.elim | omega | trivial
      · have dp : decide (0 ≤ part) = false := decide_eq_false hp
        have ds : decide (0 ≤ slot) = false := decide_eq_false hs
        go_enter Try.func47, Try.ntmps47
        go_wp2
        go_quiet (fail)
        go_wp2
        all_goals
          go_ret
          refine ⟨ret_bool ?_, below_drewN B0.out _⟩
          rw [hr.out, Bool.eq_iff_iff, decide_eq_true_iff]
          (try rw [decide_eq_true_iff])
          clear hr B0
          (try simp only [beq_iff_eq, beq_eq_false_iff_ne, ne_eq] at *)
          (try simp only [Bool.false_eq_true])
          unfold formP
          dsimp only
          constructor <;> intro hh <;> first | exact hh.elim | omega | trivial
  · have dt : (ticks != 0) = true := by simpa using ht
    by_cases hp : 0 ≤ part
    · by_cases hs : 0 ≤ slot
      · have dp : decide (0 ≤ part) = true := decide_eq_true hp
        have ds : decide (0 ≤ slot) = true := decide_eq_true hs
        go_enter Try.func47, Try.ntmps47
        go_wp2
        go_quiet (fail)
        go_wp2
        all_goals
          go_ret
          refine ⟨ret_bool ?_, below_drewN B0.out _⟩
          rw [hr.out, Bool.eq_iff_iff, decide_eq_true_iff]
          (try rw [decide_eq_true_iff])
          clear hr B0
          (try simp only [beq_iff_eq, beq_eq_false_iff_ne, ne_eq] at *)
          (try simp only [Bool.false_eq_true])
          unfold formP
          dsimp only
          constructor <;> intro hh <;> first | exact hh.elim | omega | trivial
      · have dp : decide (0 ≤ part) = true := decide_eq_true hp
        have ds : decide (0 ≤ slot) = false := decide_eq_false hs
        go_enter Try.func47, Try.ntmps47
        go_wp2
        go_quiet (fail)
        go_wp2
        all_goals
          go_ret
          refine ⟨ret_bool ?_, below_drewN B0.out _⟩
          rw [hr.out, Bool.eq_iff_iff, decide_eq_true_iff]
          (try rw [decide_eq_true_iff])
          clear hr B0
          (try simp only [beq_iff_eq, beq_eq_false_iff_ne, ne_eq] at *)
          (try simp only [Bool.false_eq_true])
          unfold formP
          dsimp only
          constructor <;> intro hh <;> first | exact hh.elim | omega | trivial
    · by_cases hs : 0 ≤ slot
      · have dp : decide (0 ≤ part) = false := decide_eq_false hp
        have ds : decide (0 ≤ slot) = true := decide_eq_true hs
        go_enter Try.func47, Try.ntmps47
        go_wp2
        go_quiet (fail)
        go_wp2
        all_goals
          go_ret
          refine ⟨ret_bool ?_, below_drewN B0.out _⟩
          rw [hr.out, Bool.eq_iff_iff, decide_eq_true_iff]
          (try rw [decide_eq_true_iff])
          clear hr B0
          (try simp only [beq_iff_eq, beq_eq_false_iff_ne, ne_eq] at *)
          (try simp only [Bool.false_eq_true])
          unfold formP
          dsimp only
          constructor <;> intro hh <;> first | exact hh.elim | omega | trivial
      · have dp : decide (0 ≤ part) = false := decide_eq_false hp
        have ds : decide (0 ≤ slot) = false := decide_eq_false hs
        go_enter Try.func47, Try.ntmps47
        go_wp2
        go_quiet (fail)
        go_wp2
        all_goals
          go_ret
          refine ⟨ret_bool ?_, below_drewN B0.out _⟩
          rw [hr.out, Bool.eq_iff_iff, decide_eq_true_iff]
          (try rw [decide_eq_true_iff])
          clear hr B0
          (try simp only [beq_iff_eq, beq_eq_false_iff_ne, ne_eq] at *)
          (try simp only [Bool.false_eq_true])
          unfold formP
          dsimp only
          constructor <;> intro hh <;> first | exact hh.elim | omega | trivial

def targetP (x : AW) (s : St) : Int := if 0 ≤ s.part then whereP x s.part else s.slot
set_option maxHeartbeats 2000000 in
theorem target_any (x : AW) (A1 A2 A3 : Option Addr) (n1 n2 n3 c1 c2 c3 : Nat) (s : St) (w : World) (hx : RW4 w x A1 A2 A3 n1 n2 n3 c1 c2 c3) (r : Int) (hr : Hid (targetP x s = r)) :
    Calls Try.prog 38 #[.agg #[.int .i64 x.slots, .slice A1 n1 c1, .slice A2 n2 c2, .slice A3 n3 c3], .agg #[.int .i64 s.kind, .int .i64 s.arm, .int .i64 s.part, .int .i64 s.slot, .int .i64 s.ticks]] w fun e w' => e = .returned (.int .i64 r) ∧ Below w.heap.size w w' := by
  have B1 := Lib.hid ((Below.refl w.heap.size w).alloc (Nat.le_refl _) (.cells #[.int .i64 x.slots, .slice A1 n1 c1, .slice A2 n2 c2, .slice A3 n3 c3] 25))
  have B2 := Lib.hid (B1.out.alloc B1.out.size (.cells #[.int .i64 s.kind, .int .i64 s.arm, .int .i64 s.part, .int .i64 s.slot, .int .i64 s.ticks] 79))
  have H2 := Lib.hid (hx.below B2.out)
  clear hx
  by_cases hp : 0 ≤ s.part
  · have hr2 : Hid (whereP x s.part = r) := by unfold Hid; rw [← hr.out, targetP, if_pos hp]
    go_enter Try.func38, Try.ntmps38
    go_wp2_with fail
    refine (Where_any x A1 A2 A3 n1 n2 n3 c1 c2 c3 _ H2.out s.part r hr2).mono ?_
    rintro e w2 ⟨rfl, hb⟩
    have B3 := Lib.hid (B2.out.trans (hb.mono B2.out.size))
    clear hb
    go_wp2_with fail
    go_ret
    exact ⟨rfl, B3.out⟩
  · have hr2 : s.slot = r := by rw [← hr.out, targetP, if_neg hp]
    subst hr2
    go_enter Try.func38, Try.ntmps38
    go_wp2_with fail
    go_ret
    exact ⟨rfl, B2.out⟩
end Go.Proofs.Ytbhbbnmllokglaa

namespace Go.Proofs.Ytbhbbnmllokglaa
open Go.RowKit
set_option linter.unusedVariables false
set_option maxRecDepth 100000

/-- What may says, of a step that has its form and whose arm, part and slot exist. -/
def mayP (x : AW) (s : St) : Int :=
  let full := 0 ≤ holdsP x s.arm
  let t := targetP x s
  let here := t ≠ -1 ∧ x.spot[s.arm.toNat]? = some t
  if s.kind = 0 then (if 0 ≤ s.part ∧ full then 6 else if t = -1 then 7 else if here then 5 else if t ∈ x.spot then 10 else 0)
  else if s.kind = 1 then (if full then 6 else if ¬ here then 7 else if x.seen[s.part.toNat]? = some true then 0 else 18)
  else if s.kind = 3 then (if full then 6 else if ¬ here then 7 else if x.seen[s.part.toNat]? = some true then 5 else 0)
  else if s.kind = 2 then (if ¬ full ∨ ¬ here then 7 else if 0 ≤ inP x s.slot then 5 else 0)
  else 0

section
variable (x : AW) (A1 A2 A3 : Option Addr) (n1 n3 c1 c2 c3 : Nat) (k : Nat) (part slot ticks : Int) (w : World)
set_option maxHeartbeats 8000000 in
theorem may_go (hx : RW4 w x A1 A2 A3 n1 n1 n3 c1 c2 c3) (hf : formP ⟨0, k, part, slot, ticks⟩) (hkn : k < n3) (hp : part < n1) (r : Int) (hr : Hid (mayP x ⟨0, k, part, slot, ticks⟩ = r)) :
    Calls Try.prog 48 #[.agg #[.int .i64 x.slots, .slice A1 n1 c1, .slice A2 n1 c2, .slice A3 n3 c3], .agg #[.int .i64 0, .int .i64 k, .int .i64 part, .int .i64 slot, .int .i64 ticks]] w fun e w' => e = .returned (.int .i64 r) ∧ Below w.heap.size w w' := by
  have B1 := Lib.hid ((Below.refl w.heap.size w).alloc (Nat.le_refl _) (.cells #[.int .i64 x.slots, .slice A1 n1 c1, .slice A2 n1 c2, .slice A3 n3 c3] 25))
  have B2 := Lib.hid (B1.out.alloc B1.out.size (.cells #[.int .i64 0, .int .i64 k, .int .i64 part, .int .i64 slot, .int .i64 ticks] 79))
  have X2 := Lib.hid ((Blk.new w 25 #[.int .i64 x.slots, .slice A1 n1 c1, .slice A2 n1 c2, .slice A3 n3 c3]).alloc (.cells #[.int .i64 0, .int .i64 k, .int .i64 part, .int .i64 slot, .int .i64 ticks] 79))
  have Y2 := Lib.hid (Blk.new (w.alloc (.cells #[.int .i64 x.slots, .slice A1 n1 c1, .slice A2 n1 c2, .slice A3 n3 c3] 25)) 79 #[.int .i64 0, .int .i64 k, .int .i64 part, .int .i64 slot, .int .i64 ticks])
  simp only [World.size_alloc] at Y2
  have H2 := Lib.hid (hx.below B2.out)
  obtain ⟨q, hq⟩ := some_at (l := x.spot) (k := k) (by rw [hx.l3]; exact hkn)
  obtain ⟨h, hh⟩ : ∃ h, holdsP x k = h := ⟨_, rfl⟩
  obtain ⟨t, ht⟩ : ∃ t, targetP x ⟨0, k, part, slot, ticks⟩ = t := ⟨_, rfl⟩
  have HH := Lib.hid hh
  have HT := Lib.hid ht
  have hb3 := hx.b3
  have HQ := Lib.hid hq
  have hkI : (k : Int) < n3 := by omega
  clear hh ht hq hx
  go_enter Try.func48, Try.ntmps48
  go_wp2_with fail
  generalize hw3 : (w.alloc (.cells #[.int .i64 x.slots, .slice A1 n1 c1, .slice A2 n1 c2, .slice A3 n3 c3] 25)).alloc (.cells #[.int .i64 0, .int .i64 k, .int .i64 part, .int .i64 slot, .int .i64 ticks] 79) = w3 at B2 X2 Y2 H2 ⊢
  clear hw3
  have x0 := fun s : Ext w3 => s.cell (X2.out.cell 0)
  have x1 := fun s : Ext w3 => s.cell (X2.out.cell 1)
  have x2 := fun s : Ext w3 => s.cell (X2.out.cell 2)
  have x3 := fun s : Ext w3 => s.cell (X2.out.cell 3)
  have y0 := fun s : Ext w3 => s.cell (Y2.out.cell 0)
  have y1 := fun s : Ext w3 => s.cell (Y2.out.cell 1)
  have y2 := fun s : Ext w3 => s.cell (Y2.out.cell 2)
  have y3 := fun s : Ext w3 => s.cell (Y2.out.cell 3)
  have y4 := fun s : Ext w3 => s.cell (Y2.out.cell 4)
  refine wp_region_ext (by kernel_rfl) (by kernel_rfl) ?_
  repeat (go_big_quiet_step (fail))
  go_big_quiet_step ((go_at_call 40; refine Calls.ext (Holds_any x A1 A2 A3 n1 n1 n3 c1 c2 c3 _ (H2.out.below (Ext.h _)) k h (by omega) (by omega) HH)))
  repeat (go_big_quiet_step (fail))
  go_big_quiet_step ((go_at_call 38; refine Calls.ext (target_any x A1 A2 A3 n1 n1 n3 c1 c2 c3 ⟨0, k, part, slot, ticks⟩ _ (H2.out.below (Ext.h _)) t HT)))
  repeat (go_big_quiet_step (fail))
  refine wpQuiet_nil ?_
  intro _ hw'
  obtain ⟨sx, rfl⟩ := hw'
  have bx := H2.out.below sx.h
  obtain ⟨b3', o3, hA3, _, hc3⟩ := bx.ra.spot (by have := lt_of_at HQ.out; omega)
  subst hA3
  have e3 := hc3 k q HQ.out
  have L3 := Lib.hid bx.l3
  have L1 := Lib.hid bx.l1
  have S3 := Lib.hid bx.ra.spot
  have P3 := Lib.hid bx
  clear hc3 bx x0 x1 x2 x3 y0 y1 y2 y3 y4
  have X3 := Lib.hid (X2.out.below sx.h X2.out.lt)
  have Y3 := Lib.hid (Y2.out.below sx.h Y2.out.lt)
  have B3 := Lib.hid (keep_below B2.out (Nat.le_refl _) sx.h)
  generalize sx.to = w5 at e3 S3 P3 X3 Y3 B3 ⊢
  have x0 := X3.out.cell 0
  have x1 := X3.out.cell 1
  have x2 := X3.out.cell 2
  have x3 := X3.out.cell 3
  have y0 := Y3.out.cell 0
  have y1 := Y3.out.cell 1
  have y2 := Y3.out.cell 2
  have y3 := Y3.out.cell 3
  have y4 := Y3.out.cell 4
  clear X2 Y2 B2 H2
  obtain ⟨rc, hrc⟩ : ∃ rc, rc = decide (t ∈ x.spot) := ⟨_, rfl⟩
  have HRC := Lib.hid hrc
  have hr2 : Hid ((if 0 ≤ part ∧ 0 ≤ h then 6 else if t = -1 then 7 else if t ≠ -1 ∧ q = t then 5 else if rc = true then 10 else 0) = r) := by
    unfold Hid
    rw [← hr.out, hrc]
    simp [mayP, HH.out, HT.out, HQ.out]
  clear hrc hr hf
  cases rc
  all_goals
    go_wp2_with (go_at_call 12; refine (containsI_any _ n3 c3 x.spot t _ _ S3.out L3.out (by omega) HRC).mono ?_; rintro e w' ⟨rfl, rfl⟩)
    all_goals
      go_ret
      refine ⟨ret_int ?_, B3.out⟩
      rw [← hr2.out]
      clear hr2 HRC
      (try simp only [beq_iff_eq, beq_eq_false_iff_ne, ne_eq] at *)
      (repeat' split) <;> first | rfl | omega | simp_all
set_option maxHeartbeats 8000000 in
theorem may_take (hx : RW4 w x A1 A2 A3 n1 n1 n3 c1 c2 c3) (hf : formP ⟨1, k, part, slot, ticks⟩) (hkn : k < n3) (hp : part < n1) (r : Int) (hr : Hid (mayP x ⟨1, k, part, slot, ticks⟩ = r)) :
    Calls Try.prog 48 #[.agg #[.int .i64 x.slots, .slice A1 n1 c1, .slice A2 n1 c2, .slice A3 n3 c3], .agg #[.int .i64 1, .int .i64 k, .int .i64 part, .int .i64 slot, .int .i64 ticks]] w fun e w' => e = .returned (.int .i64 r) ∧ Below w.heap.size w w' := by
  have hp0 : 0 ≤ part := by have h := hf; unfold formP at h; dsimp only at h; omega
  obtain ⟨p, rfl⟩ := Int.eq_ofNat_of_zero_le hp0
  obtain ⟨sp, hsp⟩ := some_at (l := x.seen) (k := p) (by rw [hx.l2]; omega)
  have HSP := Lib.hid hsp
  clear hp0 hsp
  have B1 := Lib.hid ((Below.refl w.heap.size w).alloc (Nat.le_refl _) (.cells #[.int .i64 x.slots, .slice A1 n1 c1, .slice A2 n1 c2, .slice A3 n3 c3] 25))
  have B2 := Lib.hid (B1.out.alloc B1.out.size (.cells #[.int .i64 1, .int .i64 k, .int .i64 p, .int .i64 slot, .int .i64 ticks] 79))
  have X2 := Lib.hid ((Blk.new w 25 #[.int .i64 x.slots, .slice A1 n1 c1, .slice A2 n1 c2, .slice A3 n3 c3]).alloc (.cells #[.int .i64 1, .int .i64 k, .int .i64 p, .int .i64 slot, .int .i64 ticks] 79))
  have Y2 := Lib.hid (Blk.new (w.alloc (.cells #[.int .i64 x.slots, .slice A1 n1 c1, .slice A2 n1 c2, .slice A3 n3 c3] 25)) 79 #[.int .i64 1, .int .i64 k, .int .i64 p, .int .i64 slot, .int .i64 ticks])
  simp only [World.size_alloc] at Y2
  have H2 := Lib.hid (hx.below B2.out)
  obtain ⟨q, hq⟩ := some_at (l := x.spot) (k := k) (by rw [hx.l3]; exact hkn)
  obtain ⟨h, hh⟩ : ∃ h, holdsP x k = h := ⟨_, rfl⟩
  obtain ⟨t, ht⟩ : ∃ t, targetP x ⟨1, k, p, slot, ticks⟩ = t := ⟨_, rfl⟩
  have HH := Lib.hid hh
  have HT := Lib.hid ht
  have hb3 := hx.b3
  have HQ := Lib.hid hq
  have hkI : (k : Int) < n3 := by omega
  clear hh ht hq hx
  go_enter Try.func48, Try.ntmps48
  go_wp2_with fail
  generalize hw3 : (w.alloc (.cells #[.int .i64 x.slots, .slice A1 n1 c1, .slice A2 n1 c2, .slice A3 n3 c3] 25)).alloc (.cells #[.int .i64 1, .int .i64 k, .int .i64 p, .int .i64 slot, .int .i64 ticks] 79) = w3 at B2 X2 Y2 H2 ⊢
  clear hw3
  have x0 := fun s : Ext w3 => s.cell (X2.out.cell 0)
  have x1 := fun s : Ext w3 => s.cell (X2.out.cell 1)
  have x2 := fun s : Ext w3 => s.cell (X2.out.cell 2)
  have x3 := fun s : Ext w3 => s.cell (X2.out.cell 3)
  have y0 := fun s : Ext w3 => s.cell (Y2.out.cell 0)
  have y1 := fun s : Ext w3 => s.cell (Y2.out.cell 1)
  have y2 := fun s : Ext w3 => s.cell (Y2.out.cell 2)
  have y3 := fun s : Ext w3 => s.cell (Y2.out.cell 3)
  have y4 := fun s : Ext w3 => s.cell (Y2.out.cell 4)
  refine wp_region_ext (by kernel_rfl) (by kernel_rfl) ?_
  repeat (go_big_quiet_step (fail))
  go_big_quiet_step ((go_at_call 40; refine Calls.ext (Holds_any x A1 A2 A3 n1 n1 n3 c1 c2 c3 _ (H2.out.below (Ext.h _)) k h (by omega) (by omega) HH)))
  repeat (go_big_quiet_step (fail))
  go_big_quiet_step ((go_at_call 38; refine Calls.ext (target_any x A1 A2 A3 n1 n1 n3 c1 c2 c3 ⟨1, k, p, slot, ticks⟩ _ (H2.out.below (Ext.h _)) t HT)))
  repeat (go_big_quiet_step (fail))
  refine wpQuiet_nil ?_
  intro _ hw'
  obtain ⟨sx, rfl⟩ := hw'
  have bx := H2.out.below sx.h
  obtain ⟨b3', o3, hA3, _, hc3⟩ := bx.ra.spot (by have := lt_of_at HQ.out; omega)
  subst hA3
  have e3 := hc3 k q HQ.out
  obtain ⟨b2', o2, hA2, _, e2⟩ := RBo.at bx.ra.seen HSP.out
  subst hA2
  have L3 := Lib.hid bx.l3
  have L1 := Lib.hid bx.l1
  have S3 := Lib.hid bx.ra.spot
  have P3 := Lib.hid bx
  clear hc3 bx x0 x1 x2 x3 y0 y1 y2 y3 y4
  have X3 := Lib.hid (X2.out.below sx.h X2.out.lt)
  have Y3 := Lib.hid (Y2.out.below sx.h Y2.out.lt)
  have B3 := Lib.hid (keep_below B2.out (Nat.le_refl _) sx.h)
  generalize sx.to = w5 at e2 e3 S3 P3 X3 Y3 B3 ⊢
  have x0 := X3.out.cell 0
  have x1 := X3.out.cell 1
  have x2 := X3.out.cell 2
  have x3 := X3.out.cell 3
  have y0 := Y3.out.cell 0
  have y1 := Y3.out.cell 1
  have y2 := Y3.out.cell 2
  have y3 := Y3.out.cell 3
  have y4 := Y3.out.cell 4
  clear X2 Y2 B2 H2
  have hr2 : Hid ((if 0 ≤ h then 6 else if ¬ (t ≠ -1 ∧ q = t) then 7 else if sp = true then 0 else 18) = r) := by
    unfold Hid
    rw [← hr.out]
    simp [mayP, HH.out, HT.out, HQ.out, HSP.out]
  clear hr hf
  cases sp
  all_goals
    go_wp2_with fail
    all_goals
      go_ret
      refine ⟨ret_int ?_, B3.out⟩
      rw [← hr2.out]
      clear hr2
      (try simp only [ne_eq] at *)
      (repeat' split) <;> first | rfl | omega | (simp_all <;> omega)
set_option maxHeartbeats 8000000 in
theorem may_look (hx : RW4 w x A1 A2 A3 n1 n1 n3 c1 c2 c3) (hf : formP ⟨3, k, part, slot, ticks⟩) (hkn : k < n3) (hp : part < n1) (r : Int) (hr : Hid (mayP x ⟨3, k, part, slot, ticks⟩ = r)) :
    Calls Try.prog 48 #[.agg #[.int .i64 x.slots, .slice A1 n1 c1, .slice A2 n1 c2, .slice A3 n3 c3], .agg #[.int .i64 3, .int .i64 k, .int .i64 part, .int .i64 slot, .int .i64 ticks]] w fun e w' => e = .returned (.int .i64 r) ∧ Below w.heap.size w w' := by
  have hp0 : 0 ≤ part := by have h := hf; unfold formP at h; dsimp only at h; omega
  obtain ⟨p, rfl⟩ := Int.eq_ofNat_of_zero_le hp0
  obtain ⟨sp, hsp⟩ := some_at (l := x.seen) (k := p) (by rw [hx.l2]; omega)
  have HSP := Lib.hid hsp
  clear hp0 hsp
  have B1 := Lib.hid ((Below.refl w.heap.size w).alloc (Nat.le_refl _) (.cells #[.int .i64 x.slots, .slice A1 n1 c1, .slice A2 n1 c2, .slice A3 n3 c3] 25))
  have B2 := Lib.hid (B1.out.alloc B1.out.size (.cells #[.int .i64 3, .int .i64 k, .int .i64 p, .int .i64 slot, .int .i64 ticks] 79))
  have X2 := Lib.hid ((Blk.new w 25 #[.int .i64 x.slots, .slice A1 n1 c1, .slice A2 n1 c2, .slice A3 n3 c3]).alloc (.cells #[.int .i64 3, .int .i64 k, .int .i64 p, .int .i64 slot, .int .i64 ticks] 79))
  have Y2 := Lib.hid (Blk.new (w.alloc (.cells #[.int .i64 x.slots, .slice A1 n1 c1, .slice A2 n1 c2, .slice A3 n3 c3] 25)) 79 #[.int .i64 3, .int .i64 k, .int .i64 p, .int .i64 slot, .int .i64 ticks])
  simp only [World.size_alloc] at Y2
  have H2 := Lib.hid (hx.below B2.out)
  obtain ⟨q, hq⟩ := some_at (l := x.spot) (k := k) (by rw [hx.l3]; exact hkn)
  obtain ⟨h, hh⟩ : ∃ h, holdsP x k = h := ⟨_, rfl⟩
  obtain ⟨t, ht⟩ : ∃ t, targetP x ⟨3, k, p, slot, ticks⟩ = t := ⟨_, rfl⟩
  have HH := Lib.hid hh
  have HT := Lib.hid ht
  have hb3 := hx.b3
  have HQ := Lib.hid hq
  have hkI : (k : Int) < n3 := by omega
  clear hh ht hq hx
  go_enter Try.func48, Try.ntmps48
  go_wp2_with fail
  generalize hw3 : (w.alloc (.cells #[.int .i64 x.slots, .slice A1 n1 c1, .slice A2 n1 c2, .slice A3 n3 c3] 25)).alloc (.cells #[.int .i64 3, .int .i64 k, .int .i64 p, .int .i64 slot, .int .i64 ticks] 79) = w3 at B2 X2 Y2 H2 ⊢
  clear hw3
  have x0 := fun s : Ext w3 => s.cell (X2.out.cell 0)
  have x1 := fun s : Ext w3 => s.cell (X2.out.cell 1)
  have x2 := fun s : Ext w3 => s.cell (X2.out.cell 2)
  have x3 := fun s : Ext w3 => s.cell (X2.out.cell 3)
  have y0 := fun s : Ext w3 => s.cell (Y2.out.cell 0)
  have y1 := fun s : Ext w3 => s.cell (Y2.out.cell 1)
  have y2 := fun s : Ext w3 => s.cell (Y2.out.cell 2)
  have y3 := fun s : Ext w3 => s.cell (Y2.out.cell 3)
  have y4 := fun s : Ext w3 => s.cell (Y2.out.cell 4)
  refine wp_region_ext (by kernel_rfl) (by kernel_rfl) ?_
  repeat (go_big_quiet_step (fail))
  go_big_quiet_step ((go_at_call 40; refine Calls.ext (Holds_any x A1 A2 A3 n1 n1 n3 c1 c2 c3 _ (H2.out.below (Ext.h _)) k h (by omega) (by omega) HH)))
  repeat (go_big_quiet_step (fail))
  go_big_quiet_step ((go_at_call 38; refine Calls.ext (target_any x A1 A2 A3 n1 n1 n3 c1 c2 c3 ⟨3, k, p, slot, ticks⟩ _ (H2.out.below (Ext.h _)) t HT)))
  repeat (go_big_quiet_step (fail))
  refine wpQuiet_nil ?_
  intro _ hw'
  obtain ⟨sx, rfl⟩ := hw'
  have bx := H2.out.below sx.h
  obtain ⟨b3', o3, hA3, _, hc3⟩ := bx.ra.spot (by have := lt_of_at HQ.out; omega)
  subst hA3
  have e3 := hc3 k q HQ.out
  obtain ⟨b2', o2, hA2, _, e2⟩ := RBo.at bx.ra.seen HSP.out
  subst hA2
  have L3 := Lib.hid bx.l3
  have L1 := Lib.hid bx.l1
  have S3 := Lib.hid bx.ra.spot
  have P3 := Lib.hid bx
  clear hc3 bx x0 x1 x2 x3 y0 y1 y2 y3 y4
  have X3 := Lib.hid (X2.out.below sx.h X2.out.lt)
  have Y3 := Lib.hid (Y2.out.below sx.h Y2.out.lt)
  have B3 := Lib.hid (keep_below B2.out (Nat.le_refl _) sx.h)
  generalize sx.to = w5 at e2 e3 S3 P3 X3 Y3 B3 ⊢
  have x0 := X3.out.cell 0
  have x1 := X3.out.cell 1
  have x2 := X3.out.cell 2
  have x3 := X3.out.cell 3
  have y0 := Y3.out.cell 0
  have y1 := Y3.out.cell 1
  have y2 := Y3.out.cell 2
  have y3 := Y3.out.cell 3
  have y4 := Y3.out.cell 4
  clear X2 Y2 B2 H2
  have hr2 : Hid ((if 0 ≤ h then 6 else if ¬ (t ≠ -1 ∧ q = t) then 7 else if sp = true then 5 else 0) = r) := by
    unfold Hid
    rw [← hr.out]
    simp [mayP, HH.out, HT.out, HQ.out, HSP.out]
  clear hr hf
  cases sp
  all_goals
    go_wp2_with fail
    all_goals
      go_ret
      refine ⟨ret_int ?_, B3.out⟩
      rw [← hr2.out]
      clear hr2
      (try simp only [ne_eq] at *)
      (repeat' split) <;> first | rfl | omega | (simp_all <;> omega)
set_option maxHeartbeats 8000000 in
theorem may_put (hx : RW4 w x A1 A2 A3 n1 n1 n3 c1 c2 c3) (hf : formP ⟨2, k, part, slot, ticks⟩) (hkn : k < n3) (hp : part < n1) (r : Int) (hr : Hid (mayP x ⟨2, k, part, slot, ticks⟩ = r)) :
    Calls Try.prog 48 #[.agg #[.int .i64 x.slots, .slice A1 n1 c1, .slice A2 n1 c2, .slice A3 n3 c3], .agg #[.int .i64 2, .int .i64 k, .int .i64 part, .int .i64 slot, .int .i64 ticks]] w fun e w' => e = .returned (.int .i64 r) ∧ Below w.heap.size w w' := by
  have B1 := Lib.hid ((Below.refl w.heap.size w).alloc (Nat.le_refl _) (.cells #[.int .i64 x.slots, .slice A1 n1 c1, .slice A2 n1 c2, .slice A3 n3 c3] 25))
  have B2 := Lib.hid (B1.out.alloc B1.out.size (.cells #[.int .i64 2, .int .i64 k, .int .i64 part, .int .i64 slot, .int .i64 ticks] 79))
  have X2 := Lib.hid ((Blk.new w 25 #[.int .i64 x.slots, .slice A1 n1 c1, .slice A2 n1 c2, .slice A3 n3 c3]).alloc (.cells #[.int .i64 2, .int .i64 k, .int .i64 part, .int .i64 slot, .int .i64 ticks] 79))
  have Y2 := Lib.hid (Blk.new (w.alloc (.cells #[.int .i64 x.slots, .slice A1 n1 c1, .slice A2 n1 c2, .slice A3 n3 c3] 25)) 79 #[.int .i64 2, .int .i64 k, .int .i64 part, .int .i64 slot, .int .i64 ticks])
  simp only [World.size_alloc] at Y2
  have H2 := Lib.hid (hx.below B2.out)
  obtain ⟨q, hq⟩ := some_at (l := x.spot) (k := k) (by rw [hx.l3]; exact hkn)
  obtain ⟨h, hh⟩ : ∃ h, holdsP x k = h := ⟨_, rfl⟩
  obtain ⟨t, ht⟩ : ∃ t, targetP x ⟨2, k, part, slot, ticks⟩ = t := ⟨_, rfl⟩
  have HH := Lib.hid hh
  have HT := Lib.hid ht
  have hb3 := hx.b3
  have HQ := Lib.hid hq
  have hkI : (k : Int) < n3 := by omega
  clear hh ht hq hx
  go_enter Try.func48, Try.ntmps48
  go_wp2_with fail
  generalize hw3 : (w.alloc (.cells #[.int .i64 x.slots, .slice A1 n1 c1, .slice A2 n1 c2, .slice A3 n3 c3] 25)).alloc (.cells #[.int .i64 2, .int .i64 k, .int .i64 part, .int .i64 slot, .int .i64 ticks] 79) = w3 at B2 X2 Y2 H2 ⊢
  clear hw3
  have x0 := fun s : Ext w3 => s.cell (X2.out.cell 0)
  have x1 := fun s : Ext w3 => s.cell (X2.out.cell 1)
  have x2 := fun s : Ext w3 => s.cell (X2.out.cell 2)
  have x3 := fun s : Ext w3 => s.cell (X2.out.cell 3)
  have y0 := fun s : Ext w3 => s.cell (Y2.out.cell 0)
  have y1 := fun s : Ext w3 => s.cell (Y2.out.cell 1)
  have y2 := fun s : Ext w3 => s.cell (Y2.out.cell 2)
  have y3 := fun s : Ext w3 => s.cell (Y2.out.cell 3)
  have y4 := fun s : Ext w3 => s.cell (Y2.out.cell 4)
  refine wp_region_ext (by kernel_rfl) (by kernel_rfl) ?_
  repeat (go_big_quiet_step (fail))
  go_big_quiet_step ((go_at_call 40; refine Calls.ext (Holds_any x A1 A2 A3 n1 n1 n3 c1 c2 c3 _ (H2.out.below (Ext.h _)) k h (by omega) (by omega) HH)))
  repeat (go_big_quiet_step (fail))
  go_big_quiet_step ((go_at_call 38; refine Calls.ext (target_any x A1 A2 A3 n1 n1 n3 c1 c2 c3 ⟨2, k, part, slot, ticks⟩ _ (H2.out.below (Ext.h _)) t HT)))
  repeat (go_big_quiet_step (fail))
  refine wpQuiet_nil ?_
  intro _ hw'
  obtain ⟨sx, rfl⟩ := hw'
  have bx := H2.out.below sx.h
  obtain ⟨b3', o3, hA3, _, hc3⟩ := bx.ra.spot (by have := lt_of_at HQ.out; omega)
  subst hA3
  have e3 := hc3 k q HQ.out
  have L3 := Lib.hid bx.l3
  have L1 := Lib.hid bx.l1
  have S3 := Lib.hid bx.ra.spot
  have P3 := Lib.hid bx
  clear hc3 bx x0 x1 x2 x3 y0 y1 y2 y3 y4
  have X3 := Lib.hid (X2.out.below sx.h X2.out.lt)
  have Y3 := Lib.hid (Y2.out.below sx.h Y2.out.lt)
  have B3 := Lib.hid (keep_below B2.out (Nat.le_refl _) sx.h)
  generalize sx.to = w5 at e3 S3 P3 X3 Y3 B3 ⊢
  have x0 := X3.out.cell 0
  have x1 := X3.out.cell 1
  have x2 := X3.out.cell 2
  have x3 := X3.out.cell 3
  have y0 := Y3.out.cell 0
  have y1 := Y3.out.cell 1
  have y2 := Y3.out.cell 2
  have y3 := Y3.out.cell 3
  have y4 := Y3.out.cell 4
  clear X2 Y2 B2 H2
  obtain ⟨iq, hiq⟩ : ∃ iq, inP x slot = iq := ⟨_, rfl⟩
  have HI := Lib.hid hiq
  have hr2 : Hid ((if ¬ 0 ≤ h ∨ ¬ (t ≠ -1 ∧ q = t) then 7 else if 0 ≤ iq then 5 else 0) = r) := by
    unfold Hid
    rw [← hr.out]
    simp [mayP, HH.out, HT.out, HQ.out, hiq]
  clear hr hf hiq
  by_cases hz : 0 ≤ h
  all_goals
    go_wp2_with (go_at_call 56; refine (In_any x A1 A2 _ n1 n1 n3 c1 c2 c3 w5 P3.out slot iq HI).mono ?_; rintro e w6 ⟨rfl, hb6⟩; have B6 := Lib.hid (B3.out.trans (hb6.mono B3.out.size)); clear hb6)
    all_goals
      go_ret
      refine ⟨ret_int ?_, (by first | exact B3.out | exact B6.out)⟩
      rw [← hr2.out]
      clear hr2
      (try simp only [ne_eq] at *)
      (repeat' split) <;> first | rfl | omega | (simp_all <;> omega)
set_option maxHeartbeats 8000000 in
theorem may_wait (hx : RW4 w x A1 A2 A3 n1 n1 n3 c1 c2 c3) (hf : formP ⟨4, k, part, slot, ticks⟩) (hkn : k < n3) (hp : part < n1) (r : Int) (hr : Hid (mayP x ⟨4, k, part, slot, ticks⟩ = r)) :
    Calls Try.prog 48 #[.agg #[.int .i64 x.slots, .slice A1 n1 c1, .slice A2 n1 c2, .slice A3 n3 c3], .agg #[.int .i64 4, .int .i64 k, .int .i64 part, .int .i64 slot, .int .i64 ticks]] w fun e w' => e = .returned (.int .i64 r) ∧ Below w.heap.size w w' := by
  have B1 := Lib.hid ((Below.refl w.heap.size w).alloc (Nat.le_refl _) (.cells #[.int .i64 x.slots, .slice A1 n1 c1, .slice A2 n1 c2, .slice A3 n3 c3] 25))
  have B2 := Lib.hid (B1.out.alloc B1.out.size (.cells #[.int .i64 4, .int .i64 k, .int .i64 part, .int .i64 slot, .int .i64 ticks] 79))
  have X2 := Lib.hid ((Blk.new w 25 #[.int .i64 x.slots, .slice A1 n1 c1, .slice A2 n1 c2, .slice A3 n3 c3]).alloc (.cells #[.int .i64 4, .int .i64 k, .int .i64 part, .int .i64 slot, .int .i64 ticks] 79))
  have Y2 := Lib.hid (Blk.new (w.alloc (.cells #[.int .i64 x.slots, .slice A1 n1 c1, .slice A2 n1 c2, .slice A3 n3 c3] 25)) 79 #[.int .i64 4, .int .i64 k, .int .i64 part, .int .i64 slot, .int .i64 ticks])
  simp only [World.size_alloc] at Y2
  have H2 := Lib.hid (hx.below B2.out)
  obtain ⟨q, hq⟩ := some_at (l := x.spot) (k := k) (by rw [hx.l3]; exact hkn)
  obtain ⟨h, hh⟩ : ∃ h, holdsP x k = h := ⟨_, rfl⟩
  obtain ⟨t, ht⟩ : ∃ t, targetP x ⟨4, k, part, slot, ticks⟩ = t := ⟨_, rfl⟩
  have HH := Lib.hid hh
  have HT := Lib.hid ht
  have hb3 := hx.b3
  have HQ := Lib.hid hq
  have hkI : (k : Int) < n3 := by omega
  clear hh ht hq hx
  go_enter Try.func48, Try.ntmps48
  go_wp2_with fail
  generalize hw3 : (w.alloc (.cells #[.int .i64 x.slots, .slice A1 n1 c1, .slice A2 n1 c2, .slice A3 n3 c3] 25)).alloc (.cells #[.int .i64 4, .int .i64 k, .int .i64 part, .int .i64 slot, .int .i64 ticks] 79) = w3 at B2 X2 Y2 H2 ⊢
  clear hw3
  have x0 := fun s : Ext w3 => s.cell (X2.out.cell 0)
  have x1 := fun s : Ext w3 => s.cell (X2.out.cell 1)
  have x2 := fun s : Ext w3 => s.cell (X2.out.cell 2)
  have x3 := fun s : Ext w3 => s.cell (X2.out.cell 3)
  have y0 := fun s : Ext w3 => s.cell (Y2.out.cell 0)
  have y1 := fun s : Ext w3 => s.cell (Y2.out.cell 1)
  have y2 := fun s : Ext w3 => s.cell (Y2.out.cell 2)
  have y3 := fun s : Ext w3 => s.cell (Y2.out.cell 3)
  have y4 := fun s : Ext w3 => s.cell (Y2.out.cell 4)
  refine wp_region_ext (by kernel_rfl) (by kernel_rfl) ?_
  repeat (go_big_quiet_step (fail))
  go_big_quiet_step ((go_at_call 40; refine Calls.ext (Holds_any x A1 A2 A3 n1 n1 n3 c1 c2 c3 _ (H2.out.below (Ext.h _)) k h (by omega) (by omega) HH)))
  repeat (go_big_quiet_step (fail))
  go_big_quiet_step ((go_at_call 38; refine Calls.ext (target_any x A1 A2 A3 n1 n1 n3 c1 c2 c3 ⟨4, k, part, slot, ticks⟩ _ (H2.out.below (Ext.h _)) t HT)))
  repeat (go_big_quiet_step (fail))
  refine wpQuiet_nil ?_
  intro _ hw'
  obtain ⟨sx, rfl⟩ := hw'
  have bx := H2.out.below sx.h
  obtain ⟨b3', o3, hA3, _, hc3⟩ := bx.ra.spot (by have := lt_of_at HQ.out; omega)
  subst hA3
  have e3 := hc3 k q HQ.out
  have L3 := Lib.hid bx.l3
  have L1 := Lib.hid bx.l1
  have S3 := Lib.hid bx.ra.spot
  have P3 := Lib.hid bx
  clear hc3 bx x0 x1 x2 x3 y0 y1 y2 y3 y4
  have X3 := Lib.hid (X2.out.below sx.h X2.out.lt)
  have Y3 := Lib.hid (Y2.out.below sx.h Y2.out.lt)
  have B3 := Lib.hid (keep_below B2.out (Nat.le_refl _) sx.h)
  generalize sx.to = w5 at e3 S3 P3 X3 Y3 B3 ⊢
  have x0 := X3.out.cell 0
  have x1 := X3.out.cell 1
  have x2 := X3.out.cell 2
  have x3 := X3.out.cell 3
  have y0 := Y3.out.cell 0
  have y1 := Y3.out.cell 1
  have y2 := Y3.out.cell 2
  have y3 := Y3.out.cell 3
  have y4 := Y3.out.cell 4
  clear X2 Y2 B2 H2
  have hr2 : r = 0 := by
    rw [← hr.out]
    simp [mayP]
  subst hr2
  clear hr hf
  go_wp2_with fail
  all_goals
    go_ret
    exact ⟨rfl, B3.out⟩
end
end Go.Proofs.Ytbhbbnmllokglaa

namespace Go.Proofs.Ytbhbbnmllokglaa
open Go.RowKit
set_option linter.unusedVariables false
set_option maxRecDepth 100000

theorem RI.take_ {w : World} {A : Option Addr} {xs : List Int} (h : RI w A xs) (n : Nat) : RI w A (xs.take n) := by
  intro hp
  obtain ⟨b, o, rfl, hlt, hc⟩ := h (by rw [List.length_take] at hp; omega)
  refine ⟨b, o, rfl, hlt, fun j x hj => hc j x ?_⟩
  rw [List.getElem?_take] at hj
  split at hj
  · exact hj
  · cases hj

/-- A valid world. -/
structure ValidA (x : AW) : Prop where
  s0 : 0 ≤ x.slots
  s8 : x.slots ≤ 8
  p6 : x.place.length ≤ 6
  a4 : x.spot.length ≤ 4
  sp : x.seen.length = x.place.length
  place : ∀ (i : Nat) (p : Int), x.place[i]? = some p → p < x.slots ∧ -1 - (x.spot.length : Int) ≤ p ∧ (p ≠ -1 → p ∉ x.place.take i)
  spot : ∀ (i : Nat) (s : Int), x.spot[i]? = some s → -1 ≤ s ∧ (s < x.slots ∨ 8 ≤ s) ∧ s < 8 + (x.place.length : Int) ∧ (s ≠ -1 → s ∉ x.spot.take i)

set_option maxHeartbeats 8000000 in
theorem Check_ok (x : AW) (A1 A2 A3 : Option Addr) (n1 n2 n3 c1 c2 c3 : Nat) (w : World) (hx : RW4 w x A1 A2 A3 n1 n2 n3 c1 c2 c3) (hv : ValidA x) :
    Calls Try.prog 28 #[.agg #[.int .i64 x.slots, .slice A1 n1 c1, .slice A2 n2 c2, .slice A3 n3 c3]] w fun e w' => e = .returned (.int .i64 0) ∧ Below w.heap.size w w' := by
  have V := Lib.hid hv
  have hn21 : n2 = n1 := by rw [← hx.l1, ← hx.l2]; exact hv.sp
  subst hn21
  have s0 := hv.s0
  have s8 := hv.s8
  have p6 : n2 ≤ 6 := by rw [← hx.l1]; exact hv.p6
  have a4 : n3 ≤ 4 := by rw [← hx.l3]; exact hv.a4
  have k1 := hx.k1
  have k3 := hx.k3
  have B1 := Lib.hid ((Below.refl w.heap.size w).alloc (Nat.le_refl _) (.cells #[.int .i64 x.slots, .slice A1 n2 c1, .slice A2 n2 c2, .slice A3 n3 c3] 25))
  have X1 := Lib.hid (Blk.new w 25 #[.int .i64 x.slots, .slice A1 n2 c1, .slice A2 n2 c2, .slice A3 n3 c3])
  have H1 := Lib.hid (hx.below B1.out)
  have g1 : IntKind.i64.wrap ((n3 : Int) - 1) = n3 - 1 := IntWalk.i64_in _ (by omega)
  clear hx hv
  go_enter Try.func28, Try.ntmps28
  go_wp2_with fail
  generalize hw1 : w.alloc (.cells #[.int .i64 x.slots, .slice A1 n2 c1, .slice A2 n2 c2, .slice A3 n3 c3] 25) = w1 at B1 X1 H1 ⊢
  clear hw1
  have x0 := X1.out.cell 0
  have x1 := X1.out.cell 1
  have x2 := X1.out.cell 2
  have x3 := X1.out.cell 3
  go_loopw [37] (fun i wr => ∃ k : Nat, i = .int .i64 k ∧ k ≤ n2 ∧ w1 = wr) (fun i _ => n2 - (intOf i).toNat)
  case atStart => exact ⟨0, rfl, by omega, rfl⟩
  case round =>
    obtain ⟨k, rfl, hk, rfl⟩ := hrel
    by_cases hlt : k < n2
    · obtain ⟨p, hp⟩ := some_at (l := x.place) (k := k) (by rw [H1.out.l1]; exact hlt)
      obtain ⟨b, o, hA, hb, hc⟩ := H1.out.ra.place (by have := lt_of_at hp; omega)
      subst hA
      have d0 := hc k p hp
      obtain ⟨v1, v2, v3⟩ := V.out.place k p hp
      rw [H1.out.l3] at v2
      have V3 := Lib.hid v3
      have LP := Lib.hid (show (x.place.take k).length = k by rw [List.length_take, H1.out.l1]; omega)
      have hkc : k ≤ c1 := by omega
      clear hc hp v3
      by_cases hp1 : p = -1
      · subst hp1
        clear V3
        go_wp2_with (go_at_call 39; refine (Held_any _ _ (by omega) (by omega)).mono ?_; rintro e w' ⟨rfl, rfl⟩)
        go_roundw
        case rel => exact ⟨k + 1, by go_num, hlt, by trivial⟩
        case measure => simp [intOf]; omega
      · have hq : (p != -1) = true := by simpa using hp1
        have hq2 : Hid (false = decide (p ∈ x.place.take k)) := by simp [Hid, V3.out hp1]
        clear V3 hp1
        go_wp2_with (go_at_call 39; refine (Held_any _ _ (by omega) (by omega)).mono ?_; rintro e w' ⟨rfl, rfl⟩)
        refine (containsI_any _ k c1 (x.place.take k) p false _ (H1.out.ra.place.take_ k) LP.out (by omega) hq2).mono ?_
        rintro e w' ⟨rfl, rfl⟩
        go_wp2_with fail
        go_roundw
        case rel => exact ⟨k + 1, by go_num, hlt, by trivial⟩
        case measure => simp [intOf]; omega
    · clear hk
      go_wp2_with fail
      go_loopw [69] (fun i wr => ∃ k : Nat, i = .int .i64 k ∧ k ≤ n3 ∧ w1 = wr) (fun i _ => n3 - (intOf i).toNat)
      case atStart => exact ⟨0, rfl, by omega, rfl⟩
      case round =>
        obtain ⟨k, rfl, hk, rfl⟩ := hrel
        by_cases hlt : k < n3
        · obtain ⟨p, hp⟩ := some_at (l := x.spot) (k := k) (by rw [H1.out.l3]; exact hlt)
          obtain ⟨b, o, hA, hb, hc⟩ := H1.out.ra.spot (by have := lt_of_at hp; omega)
          subst hA
          have d0 := hc k p hp
          obtain ⟨v1, v2, v3, v4⟩ := V.out.spot k p hp
          rw [H1.out.l1] at v3
          have V4 := Lib.hid v4
          have LP := Lib.hid (show (x.spot.take k).length = k by rw [List.length_take, H1.out.l3]; omega)
          have hkc : k ≤ c3 := by omega
          have g2 : IntKind.i64.wrap (8 + (n2 : Int)) = 8 + n2 := IntWalk.i64_in _ (by omega)
          clear hc hp v4
          by_cases hp1 : p = -1
          · subst hp1
            clear V4
            rcases v2 with v2 | v2
            · go_wp2_with fail
              go_roundw
              case rel => exact ⟨k + 1, by go_num, hlt, by trivial⟩
              case measure => simp [intOf]; omega
            · exact absurd v2 (by omega)
          · have hq : (p != -1) = true := by simpa using hp1
            have hq2 : Hid (false = decide (p ∈ x.spot.take k)) := by simp [Hid, V4.out hp1]
            clear V4 hp1
            rcases v2 with v2 | v2
            all_goals
              go_wp2_with fail
              refine (containsI_any _ k c3 (x.spot.take k) p false _ (H1.out.ra.spot.take_ k) LP.out (by omega) hq2).mono ?_
              rintro e w' ⟨rfl, rfl⟩
              go_wp2_with fail
              go_roundw
              case rel => exact ⟨k + 1, by go_num, hlt, by trivial⟩
              case measure => simp [intOf]; omega
        · go_wp2_with fail
          go_ret
          exact ⟨rfl, B1.out⟩
end Go.Proofs.Ytbhbbnmllokglaa

namespace Go.Proofs.Ytbhbbnmllokglaa
open Go.RowKit
set_option linter.unusedVariables false
set_option maxRecDepth 100000

theorem may_any (x : AW) (A1 A2 A3 : Option Addr) (n1 n3 c1 c2 c3 : Nat) (k : Nat) (kind part slot ticks : Int) (w : World) (hx : RW4 w x A1 A2 A3 n1 n1 n3 c1 c2 c3) (hf : formP ⟨kind, k, part, slot, ticks⟩) (hkn : k < n3) (hp : part < n1) (r : Int) (hr : Hid (mayP x ⟨kind, k, part, slot, ticks⟩ = r)) :
    Calls Try.prog 48 #[.agg #[.int .i64 x.slots, .slice A1 n1 c1, .slice A2 n1 c2, .slice A3 n3 c3], .agg #[.int .i64 kind, .int .i64 k, .int .i64 part, .int .i64 slot, .int .i64 ticks]] w fun e w' => e = .returned (.int .i64 r) ∧ Below w.heap.size w w' := by
  have hk : kind = 0 ∨ kind = 1 ∨ kind = 3 ∨ kind = 2 ∨ kind = 4 := by have h := hf; unfold formP at h; dsimp only at h; omega
  rcases hk with rfl | rfl | rfl | rfl | rfl
  · exact may_go x A1 A2 A3 n1 n3 c1 c2 c3 k part slot ticks w hx hf hkn hp r hr
  · exact may_take x A1 A2 A3 n1 n3 c1 c2 c3 k part slot ticks w hx hf hkn hp r hr
  · exact may_look x A1 A2 A3 n1 n3 c1 c2 c3 k part slot ticks w hx hf hkn hp r hr
  · exact may_put x A1 A2 A3 n1 n3 c1 c2 c3 k part slot ticks w hx hf hkn hp r hr
  · exact may_wait x A1 A2 A3 n1 n3 c1 c2 c3 k part slot ticks w hx hf hkn hp r hr

/-- What Can says at a valid world. -/
def canP (x : AW) (s : St) : Int := if ¬ formP s then 3 else if (x.spot.length : Int) ≤ s.arm ∨ (x.place.length : Int) ≤ s.part ∨ x.slots ≤ s.slot then 4 else mayP x s

set_option maxHeartbeats 8000000 in
theorem Can_any (x : AW) (A1 A2 A3 : Option Addr) (n1 n3 c1 c2 c3 : Nat) (kind arm part slot ticks : Int) (w : World) (hx : RW4 w x A1 A2 A3 n1 n1 n3 c1 c2 c3) (hv : ValidA x) (r : Int) (hr : Hid (canP x ⟨kind, arm, part, slot, ticks⟩ = r)) :
    Calls Try.prog 35 #[.agg #[.int .i64 x.slots, .slice A1 n1 c1, .slice A2 n1 c2, .slice A3 n3 c3], .agg #[.int .i64 kind, .int .i64 arm, .int .i64 part, .int .i64 slot, .int .i64 ticks]] w fun e w' => e = .returned (.int .i64 r) ∧ Below w.heap.size w w' := by
  have B1 := Lib.hid ((Below.refl w.heap.size w).alloc (Nat.le_refl _) (.cells #[.int .i64 x.slots, .slice A1 n1 c1, .slice A2 n1 c2, .slice A3 n3 c3] 25))
  have B2 := Lib.hid (B1.out.alloc B1.out.size (.cells #[.int .i64 kind, .int .i64 arm, .int .i64 part, .int .i64 slot, .int .i64 ticks] 79))
  have X2 := Lib.hid ((Blk.new w 25 #[.int .i64 x.slots, .slice A1 n1 c1, .slice A2 n1 c2, .slice A3 n3 c3]).alloc (.cells #[.int .i64 kind, .int .i64 arm, .int .i64 part, .int .i64 slot, .int .i64 ticks] 79))
  have Y2 := Lib.hid (Blk.new (w.alloc (.cells #[.int .i64 x.slots, .slice A1 n1 c1, .slice A2 n1 c2, .slice A3 n3 c3] 25)) 79 #[.int .i64 kind, .int .i64 arm, .int .i64 part, .int .i64 slot, .int .i64 ticks])
  simp only [World.size_alloc] at Y2
  have H2 := Lib.hid (hx.below B2.out)
  have V := Lib.hid hv
  have Z2 := Lib.hid B2.out.size
  clear hx hv B1
  go_enter Try.func35, Try.ntmps35
  go_wp2_with fail
  refine (Check_ok x A1 A2 A3 n1 n1 n3 c1 c2 c3 _ H2.out V.out).mono ?_
  rintro e w3 ⟨rfl, hb⟩
  have B3 := Lib.hid (B2.out.trans (hb.mono Z2.out))
  have X3 := Lib.hid (X2.out.below hb X2.out.lt)
  have Y3 := Lib.hid (Y2.out.below hb Y2.out.lt)
  have H3 := Lib.hid (H2.out.below hb)
  have Z3 := Lib.hid B3.out.size
  clear hb X2 Y2 H2 B2 Z2
  have y0 := Y3.out.cell 0
  have y1 := Y3.out.cell 1
  have y2 := Y3.out.cell 2
  have y3 := Y3.out.cell 3
  have y4 := Y3.out.cell 4
  go_wp2_with fail
  obtain ⟨rf, hrf⟩ : ∃ rf, rf = decide (formP ⟨kind, arm, part, slot, ticks⟩) := ⟨_, rfl⟩
  refine (Form_any ⟨kind, arm, part, slot, ticks⟩ _ rf hrf).mono ?_
  rintro e w4 ⟨rfl, hb⟩
  have B4 := Lib.hid (B3.out.trans (hb.mono Z3.out))
  have X4 := Lib.hid (X3.out.below hb X3.out.lt)
  have Y4 := Lib.hid (Y3.out.below hb Y3.out.lt)
  have H4 := Lib.hid (H3.out.below hb)
  have Z4 := Lib.hid B4.out.size
  have HRF := Lib.hid hrf
  clear hb X3 Y3 H3 B3 Z3 y0 y1 y2 y3 y4 hrf
  cases rf with
  | false =>
    have hr3 : r = 3 := by rw [← hr.out, canP, if_pos (of_decide_eq_false HRF.out.symm)]
    subst hr3
    go_wp2_with fail
    go_ret
    exact ⟨rfl, B4.out⟩
  | true =>
    have hf := of_decide_eq_true HRF.out.symm
    have ha0 : 0 ≤ arm := by have h := hf; unfold formP at h; dsimp only at h; omega
    obtain ⟨k, rfl⟩ := Int.eq_ofNat_of_zero_le ha0
    have HF := Lib.hid hf
    have L1 := H4.out.l1
    have L3 := H4.out.l3
    have y0 := Y4.out.cell 0
    have y1 := Y4.out.cell 1
    have y2 := Y4.out.cell 2
    have y3 := Y4.out.cell 3
    have y4 := Y4.out.cell 4
    have x0 := X4.out.cell 0
    have x1 := X4.out.cell 1
    have x2 := X4.out.cell 2
    have x3 := X4.out.cell 3
    by_cases hbad : (n3 : Int) ≤ k ∨ (n1 : Int) ≤ part ∨ x.slots ≤ slot
    · have hr3 : r = 4 := by
        rw [← hr.out, canP, if_neg (by simpa using hf), if_pos]
        rw [L1, L3]; exact hbad
      subst hr3
      clear hr hf HF HRF L1 L3 ha0
      by_cases q1 : (n3 : Int) ≤ k
      · clear hbad
        go_wp2_with fail
        go_ret
        exact ⟨rfl, B4.out⟩
      · by_cases q2 : (n1 : Int) ≤ part
        · clear hbad
          go_wp2_with fail
          go_ret
          exact ⟨rfl, B4.out⟩
        · have q3 : x.slots ≤ slot := by omega
          clear hbad
          go_wp2_with fail
          go_ret
          exact ⟨rfl, B4.out⟩
    · have hr3 : Hid (mayP x ⟨kind, k, part, slot, ticks⟩ = r) := by
        unfold Hid
        rw [← hr.out, canP, if_neg (by simpa using hf), if_neg]
        rw [L1, L3]; exact hbad
      have q1 : (k : Int) < n3 := by omega
      have q2 : part < n1 := by omega
      have q3 : slot < x.slots := by omega
      clear hr hf HRF L1 L3 ha0 hbad
      go_wp2_with fail
      refine (may_any x A1 A2 A3 n1 n3 c1 c2 c3 k kind part slot ticks _ H4.out HF.out (by omega) q2 r hr3).mono ?_
      rintro e w5 ⟨rfl, hb⟩
      have B5 := Lib.hid (B4.out.trans (hb.mono Z4.out))
      clear hb
      go_wp2_with fail
      go_ret
      exact ⟨rfl, B5.out⟩
end Go.Proofs.Ytbhbbnmllokglaa
