/- slices.Sort and slices.Compact at integers over the list of blocks. No walk. -/
import Derived.Test.YtbhbbnmllokglaaOs12
import Derived.Test.YtbhbbnmllokglaaOs18
namespace Go.Proofs.Ytbhbbnmllokglaa
open Go.RowKit
set_option linter.unusedVariables false
set_option maxRecDepth 100000

theorem putCells_list {α : Type} [Inhabited α] (enc : α → Value) (zs : List α) (cur : List Value) (h : zs.length ≤ cur.length) : Go.Sort.putCells enc 0 zs.toArray cur.toArray = (zs.map enc ++ cur.drop zs.length).toArray := by
  unfold Go.Sort.putCells
  apply Array.ext_getElem?
  intro k
  rw [Array.getElem?_mapIdx, List.getElem?_toArray, List.getElem?_toArray, List.getElem?_append]
  simp only [List.length_map, List.size_toArray, Nat.zero_le, Nat.zero_add, true_and, Nat.sub_zero]
  by_cases hk : k < zs.length
  · rw [if_pos hk, List.getElem?_map, List.getElem?_eq_getElem hk, List.getElem?_eq_getElem (by omega)]
    simp [hk]
  · rw [if_neg hk, List.getElem?_drop, show zs.length + (k - zs.length) = k by omega]
    cases cur[k]? <;> simp [hk]
theorem putRow_Hp {α : Type} [Inhabited α] (enc : α → Value) {w0 w : World} {X T : Ents} {g : Nat} {e : TypeId} {cur : List Value} (h : Hp w0 w (X ++ ((g, e, cur) :: T))) (zs : List α) (hl : zs.length ≤ cur.length) (q : Nat) (os : Array Obj) :
    Hp w0 (Go.Sort.grow (Go.Sort.putRow enc (Go.Sort.ahead w q) g 0 zs.toArray) os) (X ++ ((g, e, zs.map enc ++ cur.drop zs.length) :: T)) := by
  have hb := (h.blk (g, e, cur) (by simp)).2
  have hsz : g < w.heap.size := hb.lt
  have hheap : ∀ k, k < w.heap.size → (Go.Sort.grow (Go.Sort.putRow enc (Go.Sort.ahead w q) g 0 zs.toArray) os).heap[k]? = (w.heap.modify g (Go.Sort.onCells (Go.Sort.putCells enc 0 zs.toArray)))[k]? := fun k hk => by
    show ((w.heap.modify g (Go.Sort.onCells (Go.Sort.putCells enc 0 zs.toArray))) ++ os)[k]? = _
    rw [Array.getElem?_append_left (by simpa using hk)]
  refine h.stored (Upd.mid X) ⟨⟨rfl, rfl, rfl, by simp [Go.Sort.ahead], fun k hk => absurd hk (by omega)⟩, fun k hk hne => ?_⟩ ?_
  · rw [hheap k hk, Array.getElem?_modify, if_neg (Ne.symm hne)]
  · unfold Blk
    rw [hheap g hsz, Array.getElem?_modify, if_pos rfl]
    have : w.heap[g]? = some (.cells cur.toArray e (0, 0)) := hb
    rw [this]
    show some (Obj.cells (Go.Sort.putCells enc 0 zs.toArray cur.toArray) e (0, 0)) = _
    rw [putCells_list enc zs cur hl]
/-- integers as cells -/
def intV (x : Int) : List Value := [.int .i64 x]
theorem intV_len (x : Int) : (intV x).length = 1 := rfl
theorem intV_flat (xs : List Int) : flat intV xs = xs.map (Value.int .i64) := by
  induction xs with
  | nil => rfl
  | cons x xs ih => rw [show flat intV (x :: xs) = intV x ++ flat intV xs from rfl, ih]; rfl
theorem RowV.holdsI {n g c : Nat} {zs : List Int} {cur : List Value} {w0 w : World} {X T : Ents} {e : TypeId} (R : RowV 1 (.slice (some ⟨g, 0, none⟩) n c) n (zs.map (Value.int .i64)) cur) (h : Hp w0 w (X ++ ((g, e, cur) :: T))) : Go.Sort.Holds (Value.int .i64) w g 0 zs.toArray ∧ g < w.heap.size ∧ zs.length = n ∧ n ≤ c ∧ c ≤ maxLen ∧ cur.length = c := by
  have hb := (h.blk (g, e, cur) (by simp)).2
  have hl := R.len
  rcases R.or_ with ⟨h1, _⟩ | ⟨g', cap, h1, h2, h3, h4, h5⟩
  · cases h1
  · cases h1
    refine ⟨fun j hj => ?_, hb.lt, by simpa using hl, h2, h3, by simpa using h4⟩
    simp only [List.size_toArray] at hj
    refine ⟨?_, hb.frozen _⟩
    rw [Nat.zero_add, hb.cell]
    have : (zs.map (Value.int .i64))[j]? = some (.int .i64 zs[j]) := by rw [List.getElem?_map, List.getElem?_eq_getElem hj]; rfl
    rw [← h5, List.getElem?_take] at this
    split at this
    · simp only [List.getElem?_toArray, this]
      simp [hj]
    · cases this
theorem Sort_E {w0 w : World} {X T : Ents} {g n c : Nat} {zs : List Int} {cur : List Value} (R : RowV 1 (.slice (some ⟨g, 0, none⟩) n c) n (zs.map (Value.int .i64)) cur) (h : Hp w0 w (X ++ ((g, 3, cur) :: T))) (hn : n ≤ 100000) :
    Calls Try.prog 54 #[.slice (some ⟨g, 0, none⟩) n c] w fun e w' => e = .returned (.tuple #[]) ∧ ∃ (ys : List Int) (cur' : List Value), (∀ x, x ∈ ys ↔ x ∈ zs) ∧ ys.length = n ∧ RowV 1 (.slice (some ⟨g, 0, none⟩) n c) n (ys.map (Value.int .i64)) cur' ∧ Hp w0 w' (X ++ ((g, 3, cur') :: T)) := by
  obtain ⟨h1, h2, h3, h4, h5, h6⟩ := R.holdsI h
  have hc := Try.slices_Sort_int g 0 c zs w h1 h2 (by omega)
  rw [h3] at hc
  refine hc.mono ?_
  rintro e w' ⟨rfl, q, os, rfl⟩
  have hm : (zs.mergeSort fun x y => decide (x ≤ y)).length = n := by rw [List.length_mergeSort, h3]
  have hp := putRow_Hp (Value.int .i64) h (zs.mergeSort fun x y => decide (x ≤ y)) (by omega) q os
  refine ⟨rfl, _, _, fun x => List.mem_mergeSort, hm, ⟨by simp [hm], .inr ⟨g, c, rfl, h4, h5, ?_, ?_⟩⟩, hp⟩
  · simp [hm, h6]; omega
  · rw [Nat.mul_one, ← hm]
    have : (zs.mergeSort fun x y => decide (x ≤ y)).length = ((zs.mergeSort fun x y => decide (x ≤ y)).map (Value.int .i64)).length := by simp
    rw [this]
    exact List.take_left
theorem mem_compactUp (d : Array Int) : ∀ (m i : Nat), i < m → d[i]! ∈ Go.Lib.compactUpTo d m
  | 0, _, h => absurd h (by omega)
  | m + 1, i, h => by
    rw [Go.Lib.compactUpTo_succ]
    by_cases hi : i < m
    · exact List.mem_append_left _ (mem_compactUp d m i hi)
    · obtain rfl : i = m := by omega
      by_cases hk : Go.Lib.keeps d i = true
      · rw [if_pos hk]; exact List.mem_append_right _ (.head _)
      · rw [if_neg hk, List.append_nil]
        unfold Go.Lib.keeps at hk
        simp only [decide_eq_true_eq, not_or, ne_eq, Decidable.not_not] at hk
        rw [hk.2]
        exact mem_compactUp d i (i - 1) (by omega)
theorem mem_compactI (zs : List Int) (x : Int) : x ∈ Go.Lib.compact zs ↔ x ∈ zs := by
  constructor
  · intro h
    unfold Go.Lib.compact Go.Lib.compactUpTo at h
    obtain ⟨i, hi, rfl⟩ := List.mem_map.1 h
    have hi' : i < zs.length := List.mem_range.1 (List.mem_filter.1 hi).1
    simp [getElem!_pos, hi']
  · intro h
    obtain ⟨i, hi, rfl⟩ := List.mem_iff_getElem.1 h
    have := mem_compactUp zs.toArray zs.length i hi
    unfold Go.Lib.compact
    simpa [getElem!_pos, hi] using this
theorem Compact_E {w0 w : World} {X T : Ents} {g n c : Nat} {zs : List Int} {cur : List Value} (R : RowV 1 (.slice (some ⟨g, 0, none⟩) n c) n (zs.map (Value.int .i64)) cur) (h : Hp w0 w (X ++ ((g, 3, cur) :: T))) (hn : n ≤ 100000) :
    Calls Try.prog 55 #[.slice (some ⟨g, 0, none⟩) n c] w fun e w' => ∃ (k : Nat) (ys : List Int) (cur' : List Value), e = .returned (.slice (some ⟨g, 0, none⟩) k c) ∧ (∀ x, x ∈ ys ↔ x ∈ zs) ∧ k ≤ n ∧ RowV 1 (.slice (some ⟨g, 0, none⟩) k c) k (ys.map (Value.int .i64)) cur' ∧ Hp w0 w' (X ++ ((g, 3, cur') :: T)) := by
  obtain ⟨h1, h2, h3, h4, h5, h6⟩ := R.holdsI h
  have hc := Try.slices_Compact_int g 0 c zs w h1 (by omega) (by omega)
  rw [h3] at hc
  refine hc.mono ?_
  rintro e w' ⟨rfl, q, rfl⟩
  have hk : (Go.Lib.compact zs).length ≤ n := by
    have : (Go.Lib.compact zs).length ≤ zs.length := by
      unfold Go.Lib.compact Go.Lib.compactUpTo
      rw [List.length_map]
      exact Nat.le_trans (List.length_filter_le _ _) (by simp)
    omega
  have hp := putRow_Hp (Value.int .i64) h (Go.Lib.compact zs ++ List.replicate (n - (Go.Lib.compact zs).length) 0) (by simp; omega) q #[]
  rw [Go.Sort.grow_empty] at hp
  refine ⟨_, _, _, rfl, mem_compactI zs, hk, ⟨by simp, .inr ⟨g, c, rfl, by omega, h5, ?_, ?_⟩⟩, hp⟩
  · simp [h6]; omega
  · rw [Nat.mul_one, List.map_append, List.append_assoc]
    have : (Go.Lib.compact zs).length = ((Go.Lib.compact zs).map (Value.int .i64)).length := by simp
    rw [this]
    exact List.take_left
end Go.Proofs.Ytbhbbnmllokglaa
