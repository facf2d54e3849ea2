/- The walk of slices.Reverse at []byte. -/
import Derived.Test.YtmfejdikfpckdaaGreatDoorProg
import Derived.Test.YtmfejdikfpckdaaGreatDoorFc5
import Derived.Test.YtmfejdikfpckdaaGreatDoorFc9
import Derived.RegionTactic
import Derived.BigRegion
import Derived.Laws.BytesArg
namespace Go.Proofs.YtmfejdikfpckdaaGreatDoor
open Go.RowKit
set_option linter.unusedVariables false
set_option maxRecDepth 100000

def enc8 (l : List UInt8) : List Value := l.map fun b => Value.int .u8 (b.toNat : Int)
theorem enc8_len (l : List UInt8) : (enc8 l).length = l.length := by simp [enc8]
theorem enc8_at {l : List UInt8} {j : Nat} {b : UInt8} (h : l[j]? = some b) : (enc8 l)[j]? = some (.int .u8 (b.toNat : Int)) := by simp [enc8, h]
theorem enc8_set (l : List UInt8) (j : Nat) (b : UInt8) : (enc8 l).set j (.int .u8 (b.toNat : Int)) = enc8 (l.set j b) := by unfold enc8; rw [List.map_set]
theorem enc8_append (l m : List UInt8) : enc8 (l ++ m) = enc8 l ++ enc8 m := by simp [enc8]

/-- k from each end have been exchanged. -/
def RevTo (k : Nat) (l ys : List UInt8) : Prop := ys.length = l.length ∧ ∀ p, p < l.length → ys[p]? = if p < k ∨ l.length - k ≤ p then l[l.length - 1 - p]? else l[p]?
theorem RevTo.zero (l : List UInt8) : RevTo 0 l l := ⟨rfl, fun p hp => by rw [if_neg (by omega)]⟩
theorem RevTo.step {k j : Nat} {l ys : List UInt8} {a b : UInt8} (h : RevTo k l ys) (hj : k + j + 1 = l.length) (hk : k < j) (ha : ys[k]? = some a) (hb : ys[j]? = some b) : RevTo (k + 1) l ((ys.set k b).set j a) := by
  obtain ⟨h1, h2⟩ := h
  have h3 := h2 k (by omega)
  have h4 := h2 j (by omega)
  rw [ha, if_neg (by omega)] at h3
  rw [hb, if_neg (by omega)] at h4
  refine ⟨by simp [h1], fun p hp => ?_⟩
  rw [List.getElem?_set, List.getElem?_set, List.length_set]
  by_cases e1 : j = p
  · subst e1
    rw [if_pos rfl, if_pos (by omega), if_pos (by omega), h3, show l.length - 1 - j = k by omega]
  · rw [if_neg e1]
    by_cases e2 : k = p
    · subst e2
      rw [if_pos rfl, if_pos (by omega), if_pos (by omega), h4, show l.length - 1 - k = j by omega]
    · rw [if_neg e2, h2 p hp]
      by_cases e3 : p < k ∨ l.length - k ≤ p
      · rw [if_pos e3, if_pos (by omega)]
      · rw [if_neg e3, if_neg (by omega)]
theorem RevTo.done {k : Nat} {l ys : List UInt8} (h : RevTo k l ys) (hk : l.length ≤ k + k + 1) : ys = l.reverse := by
  obtain ⟨h1, h2⟩ := h
  apply List.ext_getElem?
  intro p
  by_cases hp : p < l.length
  · rw [h2 p hp, List.getElem?_reverse hp]
    by_cases e : p < k ∨ l.length - k ≤ p
    · rw [if_pos e]
    · rw [if_neg e, show l.length - 1 - p = p by omega]
  · rw [List.getElem?_eq_none (by omega), List.getElem?_eq_none (by rw [List.length_reverse]; omega)]

theorem own_stored8 {w : World} {B g n c : Nat} {e : TypeId} {ys : List UInt8} (h : w.ownsRow B e 1 (.slice (some ⟨g, 0, none⟩) n c) n (enc8 ys)) (j : Nat) (b : UInt8) :
    (w.setCell ⟨g, j, none⟩ (.int .u8 (b.toNat : Int))).ownsRow B e 1 (.slice (some ⟨g, 0, none⟩) n c) n (enc8 (ys.set j b)) ∧ GrB w (w.setCell ⟨g, j, none⟩ (.int .u8 (b.toNat : Int))) (some g) := by
  have := h.stored j (.int .u8 (b.toNat : Int))
  rw [enc8_set] at this
  exact ⟨this.1, .of this.2 (Nat.le_refl _)⟩

set_option maxHeartbeats 4000000 in
theorem rev8_any (B g n c : Nat) (l : List UInt8) (w : World) (ho : w.ownsRow B 5 1 (.slice (some ⟨g, 0, none⟩) n c) n (enc8 l)) (hn : n ≤ 1000) :
    Calls Tryz.prog 91 #[.slice (some ⟨g, 0, none⟩) n c] w fun e w' => e = .returned (.tuple #[]) ∧ w'.ownsRow B 5 1 (.slice (some ⟨g, 0, none⟩) n c) n (enc8 l.reverse) ∧ GrB w w' (some g) := by
  have hl : l.length = n := by have := ho.1; rw [enc8_len] at this; omega
  have HO := Lib.hid ho
  have HL := Lib.hid hl
  clear ho hl
  have hc : n ≤ c := own_cap HO.out
  by_cases hn0 : n = 0
  · subst hn0
    have hl0 : l = [] := List.eq_nil_of_length_eq_zero HL.out
    subst hl0
    go_enter Tryz.func91, Tryz.ntmps91
    go_wp2_with fail
    go_loopw [2, 3] (fun i j wr => i = .int .i64 0 ∧ j = .int .i64 (-1) ∧ w = wr) (fun _ _ _ => 0)
    case atStart => exact ⟨rfl, rfl, rfl⟩
    case round =>
      obtain ⟨rfl, rfl, rfl⟩ := hrel
      go_wp2_with fail
      go_end0
      exact ⟨rfl, HO.out, GrB.refl _ _⟩
  · have g1 : IntKind.i64.wrap ((n : Int) - 1) = ((n - 1 : Nat) : Int) := by rw [IntWalk.i64_in _ (by omega)]; omega
    go_enter Tryz.func91, Tryz.ntmps91
    go_wp2_with fail
    clear g1
    go_loopw [2, 3] (fun i j wr => ∃ (k q : Nat) (z : Int) (ys : List UInt8), i = .int .i64 k ∧ j = .int .i64 z ∧ (z = q ∨ (z = -1 ∧ q = 0)) ∧ (k : Int) + z + 1 = n ∧ z ≤ 1000 ∧ Hid (RevTo k l ys) ∧ Hid (wr.ownsRow B 5 1 (.slice (some ⟨g, 0, none⟩) n c) n (enc8 ys)) ∧ Hid (GrB w wr (some g))) (fun i _ _ => n - (intOf i).toNat)
    case atStart => exact ⟨0, n - 1, _, l, rfl, rfl, .inl rfl, by omega, by omega, RevTo.zero l, HO, GrB.refl _ _⟩
    case round =>
      obtain ⟨k, q, z, ys, rfl, rfl, hz, hkz, hz2, HR, HY, HG⟩ := hrel
      have hyl : ys.length = n := by have := HR.out.1; rw [HL.out] at this; exact this
      by_cases hlt : (k : Int) < z
      · have hzq : z = q := by omega
        subst hzq
        obtain ⟨a, ha⟩ := some_at (l := ys) (k := k) (by omega)
        obtain ⟨b, hb⟩ := some_at (l := ys) (k := q) (by omega)
        have ca : wr.cell? ⟨g, k, none⟩ = some (.int .u8 (a.toNat : Int)) := by rw [HY.out.cellAt k (by omega)]; exact enc8_at ha
        have cb : wr.cell? ⟨g, q, none⟩ = some (.int .u8 (b.toNat : Int)) := by rw [HY.out.cellAt q (by omega)]; exact enc8_at hb
        have fa := HY.out.frozenAt k
        have fb := HY.out.frozenAt q
        have hne : q ≠ k := by omega
        have HR2 := Lib.hid (HR.out.step (by rw [HL.out]; omega) (by omega) ha hb)
        have Y1 := own_stored8 HY.out k b
        have Y2 := own_stored8 Y1.1 q a
        have HY2 := Lib.hid Y2.1
        have HG2 := Lib.hid ((HG.out.trans Y1.2).trans Y2.2)
        clear Y1 Y2 ha hb hyl
        go_wp2_with fail
        go_region
        go_wp2_with fail
        go_roundw
        case rel => exact ⟨k + 1, q - 1, (q : Int) - 1, _, by go_num, rfl, by omega, by omega, by omega, HR2, HY2.out, ⟨HG2.out.os, HG2.out.tape, HG2.out.output, HG2.out.size, Nat.le_trans HG2.out.drawn (Nat.le_succ _), HG2.out.block⟩⟩
        case measure => simp [intOf]; omega
      · have hd : decide ((k : Int) < z) = false := by simpa using hlt
        have hys := HR.out.done (by rw [HL.out]; omega)
        have HY2 := HY.out
        rw [hys] at HY2
        have HY3 := Lib.hid HY2
        clear HY2 hys hyl
        go_wp2_with fail
        go_end0
        exact ⟨rfl, HY3.out, HG.out⟩

theorem rev8_nil (w : World) : Calls Tryz.prog 91 #[.slice none 0 0] w fun e w' => e = .returned (.tuple #[]) ∧ w = w' := by
  go_enter Tryz.func91, Tryz.ntmps91
  go_wp2_with fail
  go_loopw [2, 3] (fun i j wr => i = .int .i64 0 ∧ j = .int .i64 (-1) ∧ w = wr) (fun _ _ _ => 0)
  case atStart => exact ⟨rfl, rfl, rfl⟩
  case round =>
    obtain ⟨rfl, rfl, rfl⟩ := hrel
    go_wp2_with fail
    go_end0
    exact ⟨rfl, rfl⟩

/-! The bytes of a natural number, the least first -/
def le (n : Nat) : List UInt8 := if h : n = 0 then [] else UInt8.ofNat (n % 256) :: le (n / 256)
termination_by n
decreasing_by omega
theorem le_zero : le 0 = [] := by unfold le; simp
theorem le_pos {n : Nat} (h : 0 < n) : le n = UInt8.ofNat (n % 256) :: le (n / 256) := by
  rw [le]; simp [show n ≠ 0 by omega]
theorem le_len {n : Nat} {k : Nat} (h : n < 256 ^ k) : (le n).length ≤ k := by
  induction k generalizing n with
  | zero => have : n = 0 := by omega
            subst this; simp [le_zero]
  | succ k ih =>
    rcases Nat.eq_zero_or_pos n with h0 | h0
    · subst h0; simp [le_zero]
    · rw [le_pos h0, List.length_cons]
      have := ih (n := n / 256) (by rw [Nat.pow_succ] at h; omega)
      omega
theorem u8_mod (n : Nat) : ((UInt8.ofNat (n % 256)).toNat : Int) = (n : Int) % 256 := by
  have : (UInt8.ofNat (n % 256)).toNat = n % 256 := by simp
  omega

/-- What digits prints. -/
def digs (n : Nat) : List UInt8 := (le n).reverse
theorem info_u8 : (Tryz.prog.info? 5).map (fun i => (i.zero, i.size, i.bytes)) = some (some (.int .u8 0), 1, 1) := by kernel_rfl

set_option maxHeartbeats 4000000 in
theorem digits_any (n : Nat) (w : World) (hn : n ≤ 4611686018427387904) :
    Calls Tryz.prog 79 #[.int .i64 n] w fun e w' => e = .returned (.string ⟨(digs n).toArray⟩) ∧ Below w.heap.size w w' := by
  obtain ⟨i0, hi, hz0, hz1, hz2⟩ := info_parts info_u8
  go_enter Tryz.func79, Tryz.ntmps79
  go_wp2_with fail
  go_loopw [0, 3] (fun i v wr => ∃ (m : Nat) (ys : List UInt8) (A : Option Addr) (c : Nat), i = .int .i64 m ∧ v = .slice A ys.length c ∧ m ≤ 4611686018427387904 ∧ Hid (le n = ys ++ le m) ∧ Hid (wr.ownsRow w.heap.size 5 1 (.slice A ys.length c) ys.length (enc8 ys)) ∧ Hid (Below w.heap.size w wr)) (fun i _ _ => (intOf i).toNat)
  case atStart => exact ⟨n, [], none, 0, rfl, rfl, hn, rfl, World.ownsRow_nil _ _ _ _, Below.refl _ _⟩
  case round =>
    obtain ⟨m, ys, A, c, rfl, rfl, hm, HL, HO, HB⟩ := hrel
    have hlen : ys.length ≤ 8 := by
      have h1 := le_len (n := n) (k := 8) (by omega)
      rw [HL.out, List.length_append] at h1
      omega
    rcases Nat.eq_zero_or_pos m with hm0 | hm0
    · subst hm0
      have hys : ys = le n := by have := HL.out; rw [le_zero, List.append_nil] at this; exact this.symm
      have HYS := Lib.hid hys
      clear hys
      rcases A with _ | a
      · have hys0 : ys = [] := by
          rcases HO.out.2 with ⟨_, h⟩ | ⟨g, cap, cur, h, _⟩
          · exact List.eq_nil_of_length_eq_zero h
          · cases h
        subst hys0
        have hc0 : c = 0 := by
          rcases HO.out.2 with ⟨h, _⟩ | ⟨g, cap, cur, h, _⟩
          · injection h
          · cases h
        subst hc0
        have hd0 : digs n = [] := by unfold digs; rw [← HYS.out]; rfl
        have HD := Lib.hid hd0
        clear hd0
        go_wp2_with fail
        refine (rev8_nil _).mono ?_
        rintro e w2 ⟨rfl, rfl⟩
        have cv := run_convert_bytes_nil (P := Tryz.prog) wr 149 5 Tryz.underlying149 Tryz.underlying5 0 0 9 Tryz.underlying9
        go_wp2_with fail
        go_ret
        exact ⟨by rw [HD.out]; rfl, HB.out⟩
      · obtain ⟨g, hg⟩ : ∃ g, a = ⟨g, 0, none⟩ := by
          rcases HO.out.2 with ⟨h, _⟩ | ⟨g, cap, cur, h, _⟩
          · cases h
          · cases h; exact ⟨g, rfl⟩
        subst hg
        go_wp2_with fail
        refine (rev8_any _ g ys.length c ys _ HO.out (by omega)).mono ?_
        rintro e w2 ⟨rfl, ho, hg2⟩
        have hd : ys.reverse = digs n := by unfold digs; rw [← HYS.out]
        rw [hd] at ho
        have hl2 : ys.length = (digs n).length := by rw [← hd, List.length_reverse]
        have cv := run_convert_bytes_back (P := Tryz.prog) w2 149 9 5 ⟨g, 0, none⟩ c (digs n) Tryz.underlying149 Tryz.underlying5 Tryz.underlying9 (fun j hj => by
          rw [Addr.add_lit, Nat.zero_add, ho.cellAt j (by omega)]
          exact enc8_at (List.getElem?_eq_getElem hj))
        rw [← hl2] at cv
        have B2 := Lib.hid (HB.out.grown hg2 HB.out.size (fun k hk => by cases hk; exact (HO.out.lt g rfl).1))
        clear hd ho hg2 hl2
        go_wp2_with fail
        go_ret
        exact ⟨rfl, B2.out⟩
    · go_wp2_with (at_builtin; refine wpList_append_one _ rfl (.tmp 8) (.tmp 12) 149 rfl w.heap.size 5 i0 (.int .u8 0) 1 Tryz.underlying149 hi hz0 hz1 hz2 rfl (.slice A ys.length c) ys.length _ rfl (HO.out.alloc _) wr.heap.size (.int .u8 ((m : Int) % 256)) rfl (World.cell?_alloc_at _ _ _ _ rfl) rfl (by unfold maxLen; omega) (by omega) (by have := HB.out.size; simp; omega) ?_; intro v1 w1 hown1 hg1; have B1 := Lib.hid (below_append (HB.out.alloc HB.out.size _) (HO.out.alloc _) hg1 (by have := HB.out.size; simp; omega)); obtain ⟨A1, c1, hv1⟩ := own_slice hown1; subst hv1; have O1 := Lib.hid hown1; clear hown1 hg1)
      have hq := u8_mod m
      have HL2 : Hid (le n = (ys ++ [UInt8.ofNat (m % 256)]) ++ le (m / 256)) := by unfold Hid; rw [List.append_assoc, List.singleton_append, ← le_pos hm0]; exact HL.out
      have O2 : Hid (w1.ownsRow w.heap.size 5 1 (.slice A1 (ys ++ [UInt8.ofNat (m % 256)]).length c1) (ys ++ [UInt8.ofNat (m % 256)]).length (enc8 (ys ++ [UInt8.ofNat (m % 256)]))) := by
        have h := O1.out
        rw [← hq] at h
        rw [enc8_append, List.length_append]
        exact h
      clear hq
      go_roundw
      case rel => exact ⟨m / 256, _, A1, c1, by go_num, by simp, by omega, HL2, O2, B1⟩
      case measure => simp [intOf]; omega
end Go.Proofs.YtmfejdikfpckdaaGreatDoor
