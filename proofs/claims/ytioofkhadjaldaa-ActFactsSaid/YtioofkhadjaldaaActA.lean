/- The worlds of the package act, what is asked of them, and the walks of Held, Index, Contains, Holds, In. -/
import Derived.Test.YtioofkhadjaldaaFactB
import Derived.Test.YtioofkhadjaldaaExt
namespace Go.Proofs.Ytioofkhadjaldaa
open Go.RowKit
set_option linter.unusedVariables false
set_option maxRecDepth 100000

structure AW where
  slots : Int
  place : List Int
  seen : List Bool
  spot : List Int
  deriving DecidableEq
def RBo (w : World) (A : Option Addr) (bs : List Bool) : Prop := RK (fun b : Bool => [Value.bool b]) 1 w A bs
theorem RBo.at {w : World} {A : Option Addr} {bs : List Bool} (h : RBo w A bs) {j : Nat} {x : Bool} (hj : bs[j]? = some x) : ∃ b o, A = some ⟨b, o, none⟩ ∧ b < w.heap.size ∧ w.cell? ⟨b, o + j, none⟩ = some (.bool x) := by
  obtain ⟨b, o, hA, hb, hc⟩ := h (by have := lt_of_at hj; omega)
  refine ⟨b, o, hA, hb, ?_⟩
  have := hc j x 0 _ hj rfl
  simpa using this
/-- The three slices of a world. -/
structure RA (w : World) (x : AW) (A1 A2 A3 : Option Addr) : Prop where
  place : RI w A1 x.place
  seen : RBo w A2 x.seen
  spot : RI w A3 x.spot
theorem RA.below {w w' : World} {x : AW} {A1 A2 A3 : Option Addr} (h : RA w x A1 A2 A3) (hb : Below w.heap.size w w') : RA w' x A1 A2 A3 := ⟨h.place.below hb, RK.below h.seen hb, h.spot.below hb⟩

def ixo : Option Nat → Int
  | none => -1
  | some k => k
def idxI (xs : List Int) (v : Int) : Int := ixo (xs.idxOf? v)
theorem idxI_no {xs : List Int} {v : Int} (h : v ∉ xs) : idxI xs v = -1 := by
  unfold idxI
  rw [List.idxOf?_eq_none_iff.2 h]
  rfl
theorem idxI_at : ∀ {xs : List Int} {v : Int} {k : Nat}, xs[k]? = some v → v ∉ xs.take k → idxI xs v = k := by
  intro xs
  induction xs with
  | nil => intro v k h; simp at h
  | cons x xs ih =>
    intro v k h hn
    unfold idxI
    rw [List.idxOf?_cons]
    cases k with
    | zero => simp at h; subst h; simp [ixo]
    | succ k =>
      have hx : x ≠ v := fun e => hn (by rw [List.take_succ_cons, e]; exact List.mem_cons_self)
      have h2 := ih (v := v) (k := k) (by simpa using h) (fun hm => hn (by rw [List.take_succ_cons]; exact List.mem_cons_of_mem _ hm))
      rw [if_neg (by simpa using hx)]
      unfold idxI at h2
      cases hq : xs.idxOf? v with
      | none => rw [hq] at h2; simp [ixo] at h2
      | some q => rw [hq] at h2; simp only [ixo, Option.map_some] at h2 ⊢; omega
theorem idxI_cases (xs : List Int) (v : Int) : (idxI xs v = -1 ∧ v ∉ xs) ∨ ∃ k : Nat, idxI xs v = k ∧ xs[k]? = some v ∧ v ∉ xs.take k := by
  by_cases h : v ∈ xs
  · right
    obtain ⟨k, hk, hmin⟩ : ∃ k, xs[k]? = some v ∧ v ∉ xs.take k := by
      induction xs with
      | nil => simp at h
      | cons x xs ih =>
        by_cases e : x = v
        · exact ⟨0, by simp [e], by simp⟩
        · obtain ⟨k, h1, h2⟩ := ih (by simpa [Ne.symm e] using h)
          exact ⟨k + 1, by simpa using h1, by rw [List.take_succ_cons]; simpa [Ne.symm e] using h2⟩
    exact ⟨k, idxI_at hk hmin, hk, hmin⟩
  · exact .inl ⟨idxI_no h, h⟩

set_option maxHeartbeats 1000000 in
theorem indexI_any (A : Option Addr) (n c : Nat) (xs : List Int) (v : Int) (r : Int) (w : World) (hR : RI w A xs) (hn : xs.length = n) (hm : n ≤ 1000) (hr : Hid (idxI xs v = r)) :
    Calls Try.prog 32 #[.slice A n c, .int .i64 v] w fun e w' => e = .returned (.int .i64 r) ∧ w = w' := by
  subst hn
  have HR := Lib.hid hR; clear hR
  go_enter Try.func32, Try.ntmps32
  go_wp2
  go_loop [8] (fun i => ∃ k : Nat, k ≤ xs.length ∧ i = .int .i64 k ∧ Hid (v ∉ xs.take k)) (fun i => xs.length - (intOf i).toNat)
  case atStart => exact ⟨0, by omega, rfl, by simp [Hid]⟩
  case round =>
    obtain ⟨k, hk, rfl, hno⟩ := hrel
    by_cases hlt : k < xs.length
    · obtain ⟨x, hx⟩ := some_at hlt
      obtain ⟨b, o, rfl, hb, hc⟩ := HR.out (by omega)
      have c1 := hc k x hx
      have Hx := Lib.hid hx
      clear hc hx
      by_cases hv : v = x
      · subst hv
        have hq : (v == v) = true := by simp
        have hrk : r = k := by rw [← hr.out]; exact idxI_at Hx.out hno.out
        subst hrk
        go_wp2
        go_ret
        exact ⟨rfl, rfl⟩
      · have hq : (v == x) = false := by simpa using hv
        have Hv := Lib.hid hv
        clear hv
        go_wp2
        go_round
        case rel =>
          refine ⟨k + 1, by omega, by go_num, ?_⟩
          have := hno.out
          have h2 := Hv.out
          unfold Hid
          rw [List.take_add_one, Hx.out]
          simpa using ⟨this, h2⟩
        case measure => simp [intOf]; omega
    · have hkx : k = xs.length := by omega
      have hrk : r = -1 := by
        rw [← hr.out]
        refine idxI_no ?_
        have := hno.out
        rwa [hkx, List.take_length] at this
      subst hrk
      clear hkx
      go_wp2
      go_ret
      exact ⟨rfl, rfl⟩

set_option maxHeartbeats 1000000 in
theorem containsI_any (A : Option Addr) (n c : Nat) (xs : List Int) (v : Int) (r : Bool) (w : World) (hR : RI w A xs) (hn : xs.length = n) (hm : n ≤ 1000) (hr : Hid (r = decide (v ∈ xs))) :
    Calls Try.prog 48 #[.slice A n c, .int .i64 v] w fun e w' => e = .returned (.bool r) ∧ w = w' := by
  have HR := Lib.hid hR; clear hR
  have HN := Lib.hid hn; clear hn
  obtain ⟨q, hq⟩ : ∃ q, idxI xs v = q := ⟨_, rfl⟩
  have HQ := Lib.hid hq
  have hq2 : Hid (r = decide (0 ≤ q)) := by
    unfold Hid
    rw [hr.out, ← hq]
    rcases idxI_cases xs v with ⟨h1, h2⟩ | ⟨k, h1, h2, _⟩
    · rw [h1]; simp [h2]
    · rw [h1]; simp [List.mem_of_getElem? h2]
  clear hq
  go_enter Try.func48, Try.ntmps48
  go_wp2_with fail
  refine (indexI_any _ _ _ xs v q _ HR.out HN.out hm HQ).mono ?_
  rintro e w' ⟨rfl, rfl⟩
  go_wp2_with fail
  go_ret
  exact ⟨ret_bool hq2.out.symm, rfl⟩

theorem Held_any (a : Int) (w : World) (h1 : -100000 ≤ a) (h2 : a ≤ 100000) : Calls Try.prog 33 #[.int .i64 a] w fun e w' => e = .returned (.int .i64 (-2 - a)) ∧ w = w' := by
  have g1 : IntKind.i64.wrap (-2 - a) = -2 - a := IntWalk.i64_in _ (by omega)
  go_enter Try.func33, Try.ntmps33
  go_wp2
  go_ret
  exact ⟨rfl, rfl⟩

abbrev AW.v (x : AW) (A1 A2 A3 : Option Addr) (n1 n2 n3 c1 c2 c3 : Nat) : Value := .agg #[.int .i64 x.slots, .slice A1 n1 c1, .slice A2 n2 c2, .slice A3 n3 c3]
/-- The part that an arm holds, or -1. -/
def holdsP (x : AW) (arm : Int) : Int := if arm < 0 ∨ (x.spot.length : Int) ≤ arm then -1 else idxI x.place (-2 - arm)
def inP (x : AW) (slot : Int) : Int := if slot < 0 then -1 else idxI x.place slot
end Go.Proofs.Ytioofkhadjaldaa
