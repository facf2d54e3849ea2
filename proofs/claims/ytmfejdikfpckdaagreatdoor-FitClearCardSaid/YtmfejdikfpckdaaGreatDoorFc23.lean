/- Sorting and turning a row of points, over the list of blocks. No walk. · poly.Hull. Printed by gen/fith.py. · fit.things. Printed by gen/fiti.py. · fit.Place. Printed by gen/fiti.py. · fit.Loose. Printed by gen/fiti.py. · fit.Both. Printed by gen/fitj.py. · gantmake.poly, with the stream behind it; rectangle. Printed out of the walk of poly. · gantmake.rectangle. Printed by gen/fitk.py. · gantmake.arm. Printed by gen/fitk.py. -/
import Derived.Test.YtmfejdikfpckdaaGreatDoorFc22
import Derived.Test.YtmfejdikfpckdaaGreatDoorFc18
import Derived.Test.YtmfejdikfpckdaaGreatDoorFc20
import Derived.Test.YtmfejdikfpckdaaGreatDoorFc19
namespace Go.Proofs.YtmfejdikfpckdaaGreatDoor
open Go.RowKit Go.Sort
set_option linter.unusedVariables false
set_option maxRecDepth 100000

theorem putCells_list {α : Type} [Inhabited α] (enc : α → Value) (zs : List α) (cur : List Value) (h : zs.length ≤ cur.length) : Go.Sort.putCells enc 0 zs.toArray cur.toArray = (zs.map enc ++ cur.drop zs.length).toArray := by
  unfold Go.Sort.putCells
  apply Array.ext_getElem?
  intro k
  rw [Array.getElem?_mapIdx, List.getElem?_toArray, List.getElem?_toArray, List.getElem?_append]
  simp only [List.length_map, List.size_toArray, Nat.zero_le, Nat.zero_add, true_and, Nat.sub_zero]
  by_cases hk : k < zs.length
  · rw [if_pos hk, List.getElem?_map, List.getElem?_eq_getElem hk, List.getElem?_eq_getElem (by omega)]
    simp [hk]
  · rw [if_neg hk, List.getElem?_drop, show zs.length + (k - zs.length) = k by omega]
    cases cur[k]? <;> simp [hk]
theorem putRow_Hp {α : Type} [Inhabited α] (enc : α → Value) {w0 w : World} {X T : Ents} {g : Nat} {e : TypeId} {cur : List Value} (h : Hp w0 w (X ++ ((g, e, cur) :: T))) (zs : List α) (hl : zs.length ≤ cur.length) (q : Nat) (os : Array Obj) :
    Hp w0 (Go.Sort.grow (Go.Sort.putRow enc (Go.Sort.ahead w q) g 0 zs.toArray) os) (X ++ ((g, e, zs.map enc ++ cur.drop zs.length) :: T)) := by
  have hb := (h.blk (g, e, cur) (by simp)).2
  have hsz : g < w.heap.size := hb.lt
  have hheap : ∀ k, k < w.heap.size → (Go.Sort.grow (Go.Sort.putRow enc (Go.Sort.ahead w q) g 0 zs.toArray) os).heap[k]? = (w.heap.modify g (Go.Sort.onCells (Go.Sort.putCells enc 0 zs.toArray)))[k]? := fun k hk => by
    show ((w.heap.modify g (Go.Sort.onCells (Go.Sort.putCells enc 0 zs.toArray))) ++ os)[k]? = _
    rw [Array.getElem?_append_left (by simpa using hk)]
  refine h.stored (Upd.mid X) ⟨⟨rfl, rfl, rfl, by simp [Go.Sort.ahead], Nat.le_add_right _ _, fun k hk => absurd hk (by omega)⟩, fun k hk hne => ?_⟩ ?_
  · rw [hheap k hk, Array.getElem?_modify, if_neg (Ne.symm hne)]
  · unfold Blk
    rw [hheap g hsz, Array.getElem?_modify, if_pos rfl]
    have : w.heap[g]? = some (.cells cur.toArray e (0, 0)) := hb
    rw [this]
    show some (Obj.cells (Go.Sort.putCells enc 0 zs.toArray cur.toArray) e (0, 0)) = _
    rw [putCells_list enc zs cur hl]
section
variable {α : Type} [Inhabited α] {enc : α → List Value} {k : Nat}
theorem putRowK_Hp (hk : ∀ x, (enc x).length = k) {w0 w : World} {X T : Ents} {g : Nat} {e : TypeId} {cur : List Value} (h : Hp w0 w (X ++ ((g, e, cur) :: T))) (ys : List α) (hl : ys.length * k ≤ cur.length) (q : Nat) (os : Array Obj) :
    Hp w0 (sortWorldK enc k w g 0 q ys.toArray os) (X ++ ((g, e, flat enc ys ++ cur.drop (ys.length * k)) :: T)) := by
  have h1 := putRow_Hp (id : Value → Value) h (flat enc ys) (by rw [flat_len hk]; exact hl) q os
  rw [List.map_id, flat_len hk] at h1
  unfold sortWorldK putRowK
  rw [flatK_flat hk]
  exact h1
theorem holdsK_blk (hk : ∀ x, (enc x).length = k) {w : World} {g : Nat} {e : TypeId} {xs : List α} {more : List Value} (hb : Blk w g e (flat enc xs ++ more).toArray) : HoldsK enc k w g 0 xs.toArray := by
  unfold HoldsK
  rw [flatK_flat hk]
  intro t ht
  have ht' : t < (flat enc xs).length := by simpa using ht
  obtain ⟨u, hu⟩ := some_at ht'
  have e1 : (flat enc xs).toArray[t]! = u := by simp [getElem!_def, hu]
  rw [e1]
  have hc : w.cell? ⟨g, 0 + t, none⟩ = some u := by
    rw [Nat.zero_add, hb.cell, List.getElem?_toArray, List.getElem?_append_left ht']
    exact hu
  exact ⟨hc, hb.frozen _⟩
end
/-- Points of moderate size. -/
abbrev PtS := {p : Rat × Rat // Sz 40 p.1 ∧ Sz 40 p.2}
theorem sz0 : Sz 40 (0 : Rat) := ⟨by decide, by decide⟩
instance : Inhabited PtS := ⟨⟨(0, 0), sz0, sz0⟩⟩
def encS (x : PtS) : List Value := ptC x.1
theorem encS_len (x : PtS) : (encS x).length = 6 := rfl
theorem encS_one (x : PtS) : ∀ v ∈ encS x, v.oneCell' = true := by
  intro v h
  have := vecC_cells [x.1] v (by rw [vecC_one]; exact h)
  exact this
theorem flat_vecC : ∀ xs : List PtS, flat encS xs = vecC (xs.map (·.1))
  | [] => rfl
  | x :: xs => by
    show encS x ++ flat encS xs = _
    rw [flat_vecC xs]; rfl
def cfS (x y : PtS) : Int := cmpV x.1 y.1
theorem cmpV_lt (a b : Rat × Rat) : cmpV a b < 0 ↔ FitT.ltV a b := by
  unfold cmpV FitT.ltV
  by_cases h : cmpQ a.1 b.1 = 0
  · rw [if_neg (by simp [h]), cmpQ_lt]
    have := cmpQ_eq.1 h
    rw [this]
    constructor
    · intro h; exact .inr ⟨rfl, h⟩
    · rintro (h | h)
      · exact absurd h (by grind)
      · exact h.2
  · rw [if_pos h, cmpQ_lt]
    constructor
    · intro h; exact .inl h
    · rintro (g | g)
      · exact g
      · exact absurd (cmpQ_eq.2 g.1) h
theorem ltOf_s (x y : PtS) : ltOf cfS x y = true ↔ FitT.ltV x.1 y.1 := by
  unfold ltOf cfS
  rw [decide_eq_true_iff, cmpV_lt]
theorem ltOf_s' (x y : PtS) : ltOf cfS x y = false ↔ ¬ FitT.ltV x.1 y.1 := by
  rw [← ltOf_s]; simp
theorem ltV_ntrans {a b c : Rat × Rat} (h : ¬ FitT.ltV a b) (g : ¬ FitT.ltV b c) : ¬ FitT.ltV a c := by
  unfold FitT.ltV at *; grind
theorem swoPt : SWO (ltOf cfS) where
  irrefl x := by rw [ltOf_s']; exact FitT.ltV_irr _
  trans x y z h1 h2 := by rw [ltOf_s] at *; exact FitT.ltV_trans h1 h2
  ntrans x y z h1 h2 := by rw [ltOf_s'] at *; exact ltV_ntrans h1 h2
theorem totPt (x y : PtS) (h1 : ltOf cfS x y = false) (h2 : ltOf cfS y x = false) : x = y := by
  rw [ltOf_s'] at *
  rcases FitT.ltV_tri x.1 y.1 with h | h | h
  · exact absurd h h1
  · exact Subtype.ext h
  · exact absurd h h2
theorem sort_val (ls : List PtS) : ((ls.mergeSort fun x y => !(ltOf cfS) y x).map (·.1)) = FitT.sortV (ls.map (·.1)) := by
  unfold FitT.sortV
  refine List.map_mergeSort fun a _ b _ => ?_
  unfold FitT.leB
  cases h : ltOf cfS b a
  · have := (ltOf_s' b a).1 h
    simp [this]
  · have := (ltOf_s b a).1 h
    simp [this]
def attS (l : List (Rat × Rat)) (Z : ∀ p ∈ l, Sz 40 p.1 ∧ Sz 40 p.2) : List PtS := l.attachWith _ Z
theorem attS_val (l : List (Rat × Rat)) (Z : ∀ p ∈ l, Sz 40 p.1 ∧ Sz 40 p.2) : (attS l Z).map (·.1) = l := List.attachWith_map_subtype_val Z
theorem attS_len (l : List (Rat × Rat)) (Z : ∀ p ∈ l, Sz 40 p.1 ∧ Sz 40 p.2) : (attS l Z).length = l.length := by
  unfold attS; exact List.length_attachWith
theorem sortV_any {w0 w : World} {T : Ents} {g c : Nat} {more : List Value} (l : List (Rat × Rat)) (H : Hid (Hp w0 w ((g, 44, vecC l ++ more) :: T))) (Z : ∀ p ∈ l, Sz 40 p.1 ∧ Sz 40 p.2) (hn : l.length ≤ 1000) :
    Calls Tryz.prog 57 #[.slice (some ⟨g, 0, none⟩) l.length c, .func (.func 58) #[] #[]] w fun e w' => e = .returned (.tuple #[]) ∧ Hp w0 w' ((g, 44, vecC (FitT.sortV l) ++ more) :: T) := by
  have hb : Blk w g 44 (flat encS (attS l Z) ++ more).toArray := by
    rw [flat_vecC, attS_val]; exact (H.out.blk _ (.head _)).2
  have eg : ∀ args w, (callFunc 58 args).run Tryz.prog w = .ok (.enter 58 args) w := enters_of Tryz.func58 (by kernel_rfl) rfl
  have hput : ∀ (ys : List PtS) (q : Nat) (os : Array Obj), ys.length = l.length → Hp w0 (sortWorldK encS 6 w g 0 q ys.toArray os) ((g, 44, vecC (ys.map (·.1)) ++ more) :: T) := fun ys q os hy => by
    have hl := vecC_len l
    have h1 := putRowK_Hp (X := []) encS_len H.out ys (by rw [List.length_append]; omega) q os
    rw [hy, List.drop_append, List.drop_eq_nil_of_le (by omega), List.nil_append, show l.length * 6 - (vecC l).length = 0 by omega, List.drop_zero, flat_vecC] at h1
    exact h1
  have hcmp : CmpLays Tryz.prog 58 #[] encS 6 cfS g 0 l.length w := fun m os dk hs x y => by
    have hT := (hput dk.toList m os (by simpa using hs)).tb
    rw [Array.toArray_toList] at hT
    refine (order_any (k := 40) x.1.1 x.1.2 y.1.1 y.1.2 _ (by decide) x.2.1 x.2.2 y.2.1 y.2.2 hT).mono ?_
    rintro e w' ⟨rfl, hb⟩
    exact ⟨rfl, hb.grew⟩
  have hcon := Tryz.slices_SortFunc_total 6 Tryz.isAgg44 Tryz.sizeOf44 encS encS_len encS_one cfS swoPt 58 #[] g 0 c (attS l Z).toArray w eg (by rw [List.size_toArray, attS_len]; exact hcmp) (holdsK_blk encS_len hb) hb.lt (by rw [List.size_toArray, attS_len]; omega) totPt
  simp only [List.size_toArray, attS_len] at hcon
  refine hcon.mono ?_
  rintro e w' ⟨rfl, m, os, rfl⟩
  refine ⟨rfl, ?_⟩
  have h1 := hput ((attS l Z).mergeSort fun x y => !(ltOf cfS) y x) m os (by rw [(List.mergeSort_perm _ _).length_eq, attS_len])
  rw [sort_val, attS_val] at h1
  exact h1
theorem reverseV_any {w0 w : World} {T : Ents} {g c : Nat} {more : List Value} (l : List (Rat × Rat)) (H : Hid (Hp w0 w ((g, 44, vecC l ++ more) :: T))) (Z : ∀ p ∈ l, Sz 40 p.1 ∧ Sz 40 p.2) (hn : l.length ≤ 1000) :
    Calls Tryz.prog 62 #[.slice (some ⟨g, 0, none⟩) l.length c] w fun e w' => e = .returned (.tuple #[]) ∧ Hp w0 w' ((g, 44, vecC l.reverse ++ more) :: T) := by
  have hb : Blk w g 44 (flat encS (attS l Z) ++ more).toArray := by
    rw [flat_vecC, attS_val]; exact (H.out.blk _ (.head _)).2
  have hput : ∀ (ys : List PtS) (q : Nat) (os : Array Obj), ys.length = l.length → Hp w0 (sortWorldK encS 6 w g 0 q ys.toArray os) ((g, 44, vecC (ys.map (·.1)) ++ more) :: T) := fun ys q os hy => by
    have hl := vecC_len l
    have h1 := putRowK_Hp (X := []) encS_len H.out ys (by rw [List.length_append]; omega) q os
    rw [hy, List.drop_append, List.drop_eq_nil_of_le (by omega), List.nil_append, show l.length * 6 - (vecC l).length = 0 by omega, List.drop_zero, flat_vecC] at h1
    exact h1
  have hcon := Tryz.slices_Reverse 6 Tryz.isAgg44 Tryz.sizeOf44 encS encS_len encS_one g 0 c (attS l Z).toArray w (holdsK_blk encS_len hb) (by rw [List.size_toArray, attS_len]; omega)
  simp only [List.size_toArray, attS_len] at hcon
  refine hcon.mono ?_
  rintro e w' ⟨rfl, m, rfl⟩
  refine ⟨rfl, ?_⟩
  have h1 := hput (attS l Z).reverse m #[] (by rw [List.length_reverse, attS_len])
  rw [List.map_reverse, attS_val] at h1
  unfold sortWorldK at h1
  rw [Go.Sort.grow_empty] at h1
  simpa using h1
end Go.Proofs.YtmfejdikfpckdaaGreatDoor

namespace Go.Proofs.YtmfejdikfpckdaaGreatDoor
open Go.RowKit
set_option linter.unusedVariables false
set_option maxRecDepth 100000

theorem three_of {s : List (Rat × Rat)} (h : ∃ a ∈ s, ∃ b ∈ s, ∃ c ∈ s, FitT.cr a b c ≠ 0) : 3 ≤ s.length := by
  obtain ⟨a, ha, b, hb, c, hc, h0⟩ := h
  match s, ha, hb, hc with
  | [], ha, _, _ => cases ha
  | [x], ha, hb, hc =>
    simp at ha hb hc
    subst ha; subst hb
    exact absurd (FitT.cr_aa _ _) (by rw [hc] at h0; exact h0)
  | [x, y], ha, hb, hc =>
    exfalso
    apply h0
    simp at ha hb hc
    unfold FitT.cr
    rcases ha with rfl | rfl <;> rcases hb with rfl | rfl <;> rcases hc with rfl | rfl <;> grind
  | x :: y :: z :: r, _, _, _ => simp
set_option maxHeartbeats 16000000 in
theorem hull_any (v : Value) (l : List (Rat × Rat)) (w : World) (V : Hid (VAt w v l)) (Z : Hid (∀ p ∈ l, Sz 40 p.1 ∧ Sz 40 p.2)) (hl : l.length ≤ 64) (hN : ∃ a ∈ l, ∃ b ∈ l, ∃ c ∈ l, FitT.cr a b c ≠ 0) (hT : Tb w) :
    Calls Tryz.prog 30 #[v] w fun e w' => ∃ out, e = .returned (.tuple #[out, .int .i64 0]) ∧ VOut w w' out (FitT.hullOf l) := by
  have H := Lib.hid (Hp.start hT)
  clear hT
  obtain ⟨so, hso⟩ : ∃ so, FitT.sortV l = so := ⟨_, rfl⟩
  obtain ⟨ps, hps⟩ : ∃ ps, dd so = ps := ⟨_, rfl⟩
  have hset : FitT.setV l = ps := by rw [setV_dd, hso, hps]
  have hps3 : 3 ≤ ps.length := by
    rw [← hset]
    obtain ⟨a, ha, b, hb, c, hc, h0⟩ := hN
    exact three_of ⟨a, (FitT.setV_mem l a).2 ha, b, (FitT.setV_mem l b).2 hb, c, (FitT.setV_mem l c).2 hc, h0⟩
  have hpsl : ps.length ≤ l.length := by rw [← hset]; exact FitT.setV_len l
  have hh3 : 3 ≤ (FitT.hullOf l).length := (FitT.hullOf_ok hN).1.three
  have hhl : FitT.hullOf l = (ps.foldl FitT.pushR []).tail.reverse ++ (ps.reverse.foldl FitT.pushR []).tail.reverse := by unfold FitT.hullOf FitT.hullP; rw [hset]
  have hsol : so.length = l.length := by rw [← hso]; exact (FitT.sortV_perm l).length_eq
  have ZS : Hid (∀ p ∈ so, Sz 40 p.1 ∧ Sz 40 p.2) := fun p hp => Z.out p ((FitT.sortV_perm l).mem_iff.1 (by rw [hso]; exact hp))
  have ZP : Hid (∀ p ∈ ps, Sz 40 p.1 ∧ Sz 40 p.2) := fun p hp => Z.out p ((FitT.setV_mem l p).1 (by rw [hset]; exact hp))
  have ZR : Hid (∀ p ∈ ps.reverse, Sz 40 p.1 ∧ Sz 40 p.2) := fun p hp => ZP.out p (List.mem_reverse.1 hp)
  obtain ⟨o1, ho1⟩ : ∃ o1, (ps.foldl FitT.pushR []).tail.reverse = o1 := ⟨_, rfl⟩
  have hol : o1.length ≤ ps.length := by
    rw [← ho1, List.length_reverse, List.length_tail]
    have := FitT.fold_len ps []
    simp at this
    omega
  rw [ho1] at hhl
  obtain ⟨hu, hhu⟩ : ∃ hu, FitT.hullOf l = hu := ⟨_, rfl⟩
  rw [hhu] at hh3 hhl ⊢
  have HSO := Lib.hid hso
  have HPS := Lib.hid hps
  have HO1 := Lib.hid ho1
  have HHL := Lib.hid hhl
  clear hso hps hset ho1 hhl hhu hN
  obtain ⟨b, c, T, more, e, hc, X0⟩ := V.out
  have X := Lib.hid X0
  clear X0 V
  obtain ⟨n, hn⟩ : ∃ n, l.length = n := ⟨_, rfl⟩
  rw [hn] at e hc hl
  have HN := Lib.hid hn
  clear hn
  subst e
  go_enter Tryz.func30, Tryz.ntmps30
  go_wp2_with (first
      | go_skip
      | ((with_reducible refine isMk ?_); refine mkN n H iVecT uVecs (by omega) (fun b0 zs W0 hz => ?_); clear H; intro H)
      | ((with_reducible refine isLoad ?_); refine ldA H ?_)
      | ((with_reducible refine isLoad ?_); refine ld1A H ?_)
      | ((with_reducible refine isStore ?_); refine stA H ?_; clear H; intro _ H)
      | ((with_reducible refine isStore ?_); refine st1A H ?_; clear H; intro _ H)
      | ((with_reducible refine isBox ?_); refine bxA H ?_; clear H; intro _ _ H)
      | ((with_reducible refine isAlloc ?_); refine alA H ?_; clear H; intro _ _ H))
  have HZ := Lib.hid hz
  clear hz
  rename_i K7 hK7
  go_loopw [16] (fun i_ wr => ∃ m : Nat, i_ = .int .i64 m ∧ m ≤ n ∧ Hid (Hp w wr [(b0, 44, vecC (l.take m) ++ zs.drop (6 * m))])) (fun i_ _ => n - (intOf i_).toNat)
  case atStart => exact ⟨0, rfl, by omega, H⟩
  case round =>
    clear H
    obtain ⟨m, rfl, hm, H⟩ := hrel
    by_cases hlt : m < n
    · obtain ⟨p, hp⟩ : ∃ p, l[m]? = some p := ⟨_, List.getElem?_eq_getElem (by have := HN.out; omega)⟩
      have HP := Lib.hid hp
      have HS : Hid (l.take (m + 1) = l.take m ++ [p]) := by unfold Hid; rw [List.take_add_one, hp]; rfl
      have Zp := Z.out p (List.mem_of_getElem? hp)
      have HLEN : (l.take m).length = m := by rw [List.length_take, HN.out]; omega
      have H6 : 6 ≤ (zs.drop (6 * m)).length := by rw [List.length_drop, HZ.out]; omega
      have z1 : Hid (SzO 40 none) := sz0
      have e1 : Hid (valO (some p.1) + valO none = p.1) := Rat.add_zero p.1
      have e2 : Hid (valO (some p.2) + valO none = p.2) := Rat.add_zero p.2
      clear hp
      go_wp2_with (first
          | go_skip
          | ((with_reducible refine isLoad ?_); refine ldW H X m HP ?_)
          | ((with_reducible refine isStore ?_); refine stN (v := p) H m HLEN H6 (by (repeat (first | apply Upd.head | apply Upd.tail | assumption))) ?_; clear H; intro _ H)
          | ((with_reducible refine isLoad ?_); refine ldA H ?_)
          | ((with_reducible refine isLoad ?_); refine ld1A H ?_)
          | ((with_reducible refine isStore ?_); refine stA H ?_; clear H; intro _ H)
          | ((with_reducible refine isStore ?_); refine st1A H ?_; clear H; intro _ H)
          | ((with_reducible refine isBox ?_); refine bxA H ?_; clear H; intro _ _ H)
          | ((with_reducible refine isAlloc ?_); refine alA H ?_; clear H; intro _ _ H))
      refine (vecAdd_any (k := 40) (some p.1) (some p.2) none none p.1 p.2 _ (by omega) Zp.1 Zp.2 z1 z1 e1 e2 H.out.tb).mono ?_
      rintro _ _ ⟨rfl, hb⟩
      replace H := Lib.hid (H.out.go hb)
      clear hb
      go_wp2_with (first
          | go_skip
          | ((with_reducible refine isLoad ?_); refine ldW H X m HP ?_)
          | ((with_reducible refine isStore ?_); refine stN (v := p) H m HLEN H6 (by (repeat (first | apply Upd.head | apply Upd.tail | assumption))) ?_; clear H; intro _ H)
          | ((with_reducible refine isLoad ?_); refine ldA H ?_)
          | ((with_reducible refine isLoad ?_); refine ld1A H ?_)
          | ((with_reducible refine isStore ?_); refine stA H ?_; clear H; intro _ H)
          | ((with_reducible refine isStore ?_); refine st1A H ?_; clear H; intro _ H)
          | ((with_reducible refine isBox ?_); refine bxA H ?_; clear H; intro _ _ H)
          | ((with_reducible refine isAlloc ?_); refine alA H ?_; clear H; intro _ _ H))
      have H2 := Lib.hid H.out.drop
      go_roundw
      case rel => exact ⟨m + 1, by go_num, by omega, by rw [HS.out, show 6 * (m + 1) = 6 * m + 6 by omega, ← List.drop_drop]; exact H2⟩
      case measure => simp [intOf]; omega
    · have hmn : m = n := by omega
      have hTK : l.take m = l := List.take_of_length_le (by rw [HN.out]; omega)
      rw [hTK] at H
      clear hTK
      subst hmn
      go_wp2_with (first
          | go_skip
          | ((with_reducible refine isLoad ?_); refine ldA H ?_)
          | ((with_reducible refine isLoad ?_); refine ld1A H ?_)
          | ((with_reducible refine isStore ?_); refine stA H ?_; clear H; intro _ H)
          | ((with_reducible refine isStore ?_); refine st1A H ?_; clear H; intro _ H)
          | ((with_reducible refine isBox ?_); refine bxA H ?_; clear H; intro _ _ H)
          | ((with_reducible refine isAlloc ?_); refine alA H ?_; clear H; intro _ _ H))
      have hS := sortV_any (c := m) l H Z.out (by rw [HN.out]; omega)
      rw [HN.out, HSO.out] at hS
      refine hS.mono ?_
      clear hS H
      rintro _ W1 ⟨rfl, H1⟩
      have H := Lib.hid H1
      clear H1
      go_wp2_with (first
          | go_skip
          | ((with_reducible refine isLoad ?_); refine ldA H ?_)
          | ((with_reducible refine isLoad ?_); refine ld1A H ?_)
          | ((with_reducible refine isStore ?_); refine stA H ?_; clear H; intro _ H)
          | ((with_reducible refine isStore ?_); refine st1A H ?_; clear H; intro _ H)
          | ((with_reducible refine isBox ?_); refine bxA H ?_; clear H; intro _ _ H)
          | ((with_reducible refine isAlloc ?_); refine alA H ?_; clear H; intro _ _ H))
      have hS := compactV_any (c := m) so H ZS (by rw [hsol, HN.out]; omega) (by rw [hsol, HN.out]; omega)
      rw [hsol, HN.out, HPS.out] at hS
      refine hS.mono ?_
      clear hS H
      rintro _ W2 ⟨more2, rfl, H1⟩
      have H := Lib.hid H1
      clear H1
      obtain ⟨np, hnp⟩ : ∃ np, ps.length = np := ⟨_, rfl⟩
      rw [hnp, HN.out] at hpsl
      rw [hnp] at hps3 hol
      have HNP := Lib.hid hnp
      rw [hnp]
      clear hnp
      go_wp2_with (first
          | go_skip
          | ((with_reducible refine isLoad ?_); refine ldA H ?_)
          | ((with_reducible refine isLoad ?_); refine ld1A H ?_)
          | ((with_reducible refine isStore ?_); refine stA H ?_; clear H; intro _ H)
          | ((with_reducible refine isStore ?_); refine st1A H ?_; clear H; intro _ H)
          | ((with_reducible refine isBox ?_); refine bxA H ?_; clear H; intro _ _ H)
          | ((with_reducible refine isAlloc ?_); refine alA H ?_; clear H; intro _ _ H))
      have hS := chain_any (k := 40) (v := .slice none 0 0) (cur := []) (c := m) [] ps (by omega) H (RowV.nil 6) (.head _) (by rw [HNP.out]; omega) ZP (by intro e; rw [e] at HNP; have := HNP.out; simp at this; omega) (by rw [HNP.out]; omega) (by simp)
      rw [HNP.out, List.nil_append, HO1.out] at hS
      refine hS.mono ?_
      clear hS H
      rintro _ W3 ⟨v1, cur1, rfl, R1, H1⟩
      have R := Lib.hid R1
      have H := Lib.hid (H1.perm (List.perm_append_singleton _ _))
      clear H1 R1
      go_wp2_with (first
          | go_skip
          | ((with_reducible refine isLoad ?_); refine ldA H ?_)
          | ((with_reducible refine isLoad ?_); refine ld1A H ?_)
          | ((with_reducible refine isStore ?_); refine stA H ?_; clear H; intro _ H)
          | ((with_reducible refine isStore ?_); refine st1A H ?_; clear H; intro _ H)
          | ((with_reducible refine isBox ?_); refine bxA H ?_; clear H; intro _ _ H)
          | ((with_reducible refine isAlloc ?_); refine alA H ?_; clear H; intro _ _ H))
      have hS := reverseV_any (c := m) ps H ZP.out (by rw [HNP.out]; omega)
      rw [HNP.out] at hS
      refine hS.mono ?_
      clear hS H
      rintro _ W4 ⟨rfl, H1⟩
      have H := Lib.hid (H1.perm (List.perm_append_singleton _ _).symm)
      clear H1
      go_wp2_with (first
          | go_skip
          | ((with_reducible refine isLoad ?_); refine ldA H ?_)
          | ((with_reducible refine isLoad ?_); refine ld1A H ?_)
          | ((with_reducible refine isStore ?_); refine stA H ?_; clear H; intro _ H)
          | ((with_reducible refine isStore ?_); refine st1A H ?_; clear H; intro _ H)
          | ((with_reducible refine isBox ?_); refine bxA H ?_; clear H; intro _ _ H)
          | ((with_reducible refine isAlloc ?_); refine alA H ?_; clear H; intro _ _ H))
      have hS := chain_any (k := 40) (c := m) o1 ps.reverse (by omega) H R (.head _) (by rw [List.length_reverse, HNP.out]; omega) ZR (by intro e; have h5 := HNP.out; rw [← List.length_reverse, e] at h5; simp at h5; omega) (by rw [List.length_reverse, HNP.out]; omega) (by omega)
      rw [List.length_reverse, HNP.out, ← HHL.out] at hS
      refine hS.mono ?_
      clear hS H R
      rintro _ W5 ⟨v2, cur2, rfl, R1, H1⟩
      obtain ⟨nh, hnh⟩ : ∃ nh, hu.length = nh := ⟨_, rfl⟩
      rw [hnh] at R1 hh3
      obtain ⟨g5, c5, more5, hv5, hc5, hm5, hcur5⟩ := R1.some_ (by omega)
      subst hv5; subst hcur5
      have HNH := Lib.hid hnh
      have H := Lib.hid H1
      clear H1 R1 hnh
      go_wp2_with (first
          | go_skip
          | ((with_reducible refine isLoad ?_); refine ldA H ?_)
          | ((with_reducible refine isLoad ?_); refine ld1A H ?_)
          | ((with_reducible refine isStore ?_); refine stA H ?_; clear H; intro _ H)
          | ((with_reducible refine isStore ?_); refine st1A H ?_; clear H; intro _ H)
          | ((with_reducible refine isBox ?_); refine bxA H ?_; clear H; intro _ _ H)
          | ((with_reducible refine isAlloc ?_); refine alA H ?_; clear H; intro _ _ H))
      go_ret2
      refine ⟨.slice (some ⟨g5, 0, none⟩) nh c5, rfl, g5, c5, more5, by rw [HNH.out], by rw [HNH.out]; exact hc5, ?_⟩
      exact H.out.sub (l2 := [(g5, 44, vecC hu ++ more5)]) (.cons_cons _ (List.nil_sublist _))
end Go.Proofs.YtmfejdikfpckdaaGreatDoor

namespace Go.Proofs.YtmfejdikfpckdaaGreatDoor
open Go.RowKit
set_option linter.unusedVariables false
set_option maxRecDepth 100000

set_option maxHeartbeats 8000000 in
theorem things_any {k : Nat} (v : Value) (ps : List PrtE) (ss : List SltE) (ws : List WalE) (p : PrtE) (s : SltE) (i j : Nat) (w : World) (hk : k ≤ 500) (W : Hid (WkF w v ps ss ws)) (hp : Hid (ps[i]? = some p)) (hs : Hid (ss[j]? = some s)) (Z : Hid (∀ q ∈ p.l, Sz k q.1 ∧ Sz k q.2)) (C : Hid (FitT.Cvx p.l)) (hl : (p.l.length : Int) ≤ 8) (hps : ps.length ≤ 1000) (hss : ss.length ≤ 1000) (hT : Tb w) :
    Calls Tryz.prog 31 #[v, .int .i64 i, .int .i64 j] w fun e w' => e = .returned (.tuple #[.agg #[.string p.nm, .slice p.sA p.sn p.sc, .bool (sgO p.x), .string (nuO p.x), .string (deO p.x), .bool (sgO p.y), .string (nuO p.y), .string (deO p.y), .bool false, .bool (sgO p.t), .string (nuO p.t), .string (deO p.t)], .agg #[.string s.nm, .bool (sgO s.x), .string (nuO s.x), .string (deO s.x), .bool (sgO s.y), .string (nuO s.y), .string (deO s.y), .bool false, .bool (sgO s.t), .string (nuO s.t), .string (deO s.t), .bool (sgO s.by_), .string (nuO s.by_), .string (deO s.by_)], .int .i64 0]) ∧ Below w.heap.size w w' := by
  have H := Lib.hid (Hp.start hT)
  clear hT
  obtain ⟨⟨a1, a2, a3, a4, a5, n1, n5, c1, c2, c3, c4, c5, wb, w1, w2, rfl, RW, RP, RS⟩, HPL, HWL⟩ := W.out
  clear W
  obtain ⟨gp, cp, curP, ep, XP0, hxp, hip⟩ := RP.at_ prtC_len hp.out (by decide)
  obtain ⟨gs, cs, curS, es, XS0, hxs, hjs⟩ := RS.at_ sltC_len hs.out (by decide)
  cases ep; cases es
  have XP := Lib.hid XP0
  have XS := Lib.hid XS0
  have HXP : Hid ((curP.drop (12 * i)).take 12 = [.string p.nm, .slice p.sA p.sn p.sc, .bool (sgO p.x), .string (nuO p.x), .string (deO p.x), .bool (sgO p.y), .string (nuO p.y), .string (deO p.y), .bool false, .bool (sgO p.t), .string (nuO p.t), .string (deO p.t)]) := hxp
  have HXS : Hid ((curS.drop (14 * j)).take 14 = [.string s.nm, .bool (sgO s.x), .string (nuO s.x), .string (deO s.x), .bool (sgO s.y), .string (nuO s.y), .string (deO s.y), .bool false, .bool (sgO s.t), .string (nuO s.t), .string (deO s.t), .bool (sgO s.by_), .string (nuO s.by_), .string (deO s.by_)]) := hxs
  have VP := Lib.hid (HPL p (List.mem_of_getElem? hp.out))
  clear XP0 XS0 hxp hxs RP RS HPL
  obtain ⟨np, hnp⟩ : ∃ n, ps.length = n := ⟨_, rfl⟩
  obtain ⟨ns, hns⟩ : ∃ n, ss.length = n := ⟨_, rfl⟩
  obtain ⟨nw, hnw⟩ : ∃ n, ws.length = n := ⟨_, rfl⟩
  rw [hnp] at hip hps
  rw [hns] at hjs hss
  rw [hnp, hns, hnw]
  clear hnp hns hnw RW HWL
  have i0 : ¬ ((i : Int) < 0) := by omega
  have j0 : ¬ ((j : Int) < 0) := by omega
  have ip : ¬ ((np : Int) ≤ (i : Int)) := by omega
  have jp : ¬ ((ns : Int) ≤ (j : Int)) := by omega
  go_enter Tryz.func31, Tryz.ntmps31
  go_wp2_with (first
      | go_skip
      | ((with_reducible refine isLoad ?_); refine ldO H XP HXP rPart ?_)
      | ((with_reducible refine isLoad ?_); refine ld1A (hT := kParts) H ?_)
      | ((with_reducible refine isLoad ?_); refine ld1A (hT := kSlots) H ?_)
      | ((with_reducible refine isAlloc ?_); refine alA (hz := zPart) H ?_; clear H; intro _ _ H)
      | ((with_reducible refine isAlloc ?_); refine alA (hz := zSlot) H ?_; clear H; intro _ _ H)
      | ((with_reducible refine isStore ?_); refine stA (hT := rPart) H ?_; clear H; intro _ H)
      | ((with_reducible refine isStore ?_); refine stA (hT := rSlot) H ?_; clear H; intro _ H)
      | ((with_reducible refine isLoad ?_); refine ldA H ?_)
      | ((with_reducible refine isLoad ?_); refine ld1A H ?_)
      | ((with_reducible refine isStore ?_); refine stA H ?_; clear H; intro _ H)
      | ((with_reducible refine isStore ?_); refine st1A H ?_; clear H; intro _ H)
      | ((with_reducible refine isBox ?_); refine bxA H ?_; clear H; intro _ _ H)
      | ((with_reducible refine isAlloc ?_); refine alA H ?_; clear H; intro _ _ H))
  skip
  rename_i g3 W3 g6 W6 g7 W7 g9 W9 V9 K7 hK7
  have HXS2 : Hid ((curS.toArray.toList.drop (j * 14)).take 14 = [.string s.nm, .bool (sgO s.x), .string (nuO s.x), .string (deO s.x), .bool (sgO s.y), .string (nuO s.y), .string (deO s.y), .bool false, .bool (sgO s.t), .string (nuO s.t), .string (deO s.t), .bool (sgO s.by_), .string (nuO s.by_), .string (deO s.by_)]) := by rw [Nat.mul_comm]; exact HXS.out
  refine wp_region_Y 11 [.c (.agg #[.string p.nm, .slice p.sA p.sn p.sc, .bool (sgO p.x), .string (nuO p.x), .string (deO p.x), .bool (sgO p.y), .string (nuO p.y), .string (deO p.y), .bool false, .bool (sgO p.t), .string (nuO p.t), .string (deO p.t)]), .c (.pointer (some ⟨g3, 3, none⟩)), .c (.slice (some ⟨gs, 0, none⟩) ns c4), .c (.int .i64 j), .c (.pointer (some ⟨gs, j * 14, none⟩)), .c (.agg #[.string s.nm, .bool (sgO s.x), .string (nuO s.x), .string (deO s.x), .bool (sgO s.y), .string (nuO s.y), .string (deO s.y), .bool false, .bool (sgO s.t), .string (nuO s.t), .string (deO s.t), .bool (sgO s.by_), .string (nuO s.by_), .string (deO s.by_)]), .c (.pointer (some ⟨g9, 1, none⟩)), .c (.slice p.sA p.sn p.sc), .y, .y, .y] ([(g9, 50, [.string p.nm, .slice p.sA p.sn p.sc, .bool (sgO p.x), .string (nuO p.x), .string (deO p.x), .bool (sgO p.y), .string (nuO p.y), .string (deO p.y), .bool false, .bool (sgO p.t), .string (nuO p.t), .string (deO p.t)]), (g3, 31, [.slice a1 n1 c1, .slice a2 nw c2, .slice (some ⟨gp, 0, none⟩) np c3, .slice (some ⟨gs, 0, none⟩) ns c4, .slice a5 n5 c5, .bool wb, .string w1, .string w2])]) H (by (repeat (first | exact List.Sublist.refl _ | exact List.nil_sublist _ | exact List.sublist_append_right _ _ | refine List.Sublist.cons_cons _ ?_ | refine List.Sublist.cons _ ?_))) (by kernel_rfl) (by kernel_rfl) (by kernel_rfl) ?_
  simp only [List.take_succ_cons, List.take_zero, List.drop_succ_cons, List.drop_zero]
  refine wpY_load (by rfl) (by rfl) (by (first | exact wanted_none rfl | exact wanted_some rfl rfl)) rPart (by rfl) (by (repeat (first | exact List.Mem.head _ | refine List.Mem.tail _ ?_ | assumption))) (by first | rfl | ((simp only [List.drop, List.take]); rfl)) (by rfl) ?_
  (simp only [Act.put, List.setIfInBounds_toArray, List.set_cons_succ, List.set_cons_zero])
  refine wpY_c (by rfl) (by (first | exact wanted_none rfl | exact wanted_some rfl rfl)) (by intro W _; first | (go_simp; rfl) | (go_simp; done) | (trace_state; fail)) ?_
  (simp only [Act.put, List.setIfInBounds_toArray, List.set_cons_succ, List.set_cons_zero])
  refine wpY_load1 (by rfl) (by rfl) (by (first | exact wanted_none rfl | exact wanted_some rfl rfl)) kSlots (by rfl) (by (repeat (first | exact List.Mem.head _ | refine List.Mem.tail _ ?_ | assumption))) (by rfl) ?_
  (simp only [Act.put, List.setIfInBounds_toArray, List.set_cons_succ, List.set_cons_zero])
  refine wpY_c (by rfl) (by (first | exact wanted_none rfl | exact wanted_some rfl rfl)) (by intro W _; first | (go_simp; rfl) | (go_simp; done) | (trace_state; fail)) ?_
  (simp only [Act.put, List.setIfInBounds_toArray, List.set_cons_succ, List.set_cons_zero])
  refine wpY_c (by rfl) (by (first | exact wanted_none rfl | exact wanted_some rfl rfl)) (by intro W _; first | (go_simp; rfl) | (go_simp; done) | (trace_state; fail)) ?_
  (simp only [Act.put, List.setIfInBounds_toArray, List.set_cons_succ, List.set_cons_zero])
  refine wpY_loadS (by rfl) (by rfl) (by (first | exact wanted_none rfl | exact wanted_some rfl rfl)) rSlot (by rfl) (by intro W HW; exact blk_range (XS.out.below HW.out.bel XS.out.lt) HXS2.out) (by rfl) ?_
  (simp only [Act.put, List.setIfInBounds_toArray, List.set_cons_succ, List.set_cons_zero])
  refine wpY_c (by rfl) (by (first | exact wanted_none rfl | exact wanted_some rfl rfl)) (by intro W _; first | (go_simp; rfl) | (go_simp; done) | (trace_state; fail)) ?_
  (simp only [Act.put, List.setIfInBounds_toArray, List.set_cons_succ, List.set_cons_zero])
  refine wpY_load1 (by rfl) (by rfl) (by (first | exact wanted_none rfl | exact wanted_some rfl rfl)) kVecs (by rfl) (by (repeat (first | exact List.Mem.head _ | refine List.Mem.tail _ ?_ | assumption))) (by rfl) ?_
  (simp only [Act.put, List.setIfInBounds_toArray, List.set_cons_succ, List.set_cons_zero])
  refine wpY_y (by rfl) (by (first | exact wanted_none rfl | exact wanted_some rfl rfl)) (fun G F W HF hG => ?_)
  go_simp
  unfold upY
  refine Calls.mono (polyCheckW_any (k := k) _ p.l _ hk (Lib.hid (VP.out.below HF.out.bel)) Z C hl HF.out.tb) ?_
  rintro _ W2 ⟨rfl, hb⟩
  refine ⟨_, rfl, hG _ W2 _ (HF.out.go hb) (by (repeat (first | exact List.Sublist.refl _ | exact List.nil_sublist _ | exact List.sublist_append_right _ _ | refine List.Sublist.cons_cons _ ?_ | refine List.Sublist.cons _ ?_))) (fun x _ => Iff.rfl) ?_⟩
  clear hG hb HF
  clear G F W W2
  (simp only [Act.put, List.setIfInBounds_toArray, List.set_cons_succ, List.set_cons_zero])
  refine wpY_st (by rfl) (by rfl) (by rfl) (by rfl) rPart (by rfl) (by rfl) (by (repeat (first | apply Upd.head | apply Upd.tail | assumption))) (by rfl) (by (simp only [List.drop, List.take, List.nil_append, List.cons_append]); rfl) (by exact Nat.le_of_ble_eq_true rfl) (by rfl) (by (repeat (first | exact List.Sublist.refl _ | exact List.nil_sublist _ | exact List.sublist_append_right _ _ | refine List.Sublist.cons_cons _ ?_ | refine List.Sublist.cons _ ?_))) (by rfl) ?_
  refine wpY_st (by rfl) (by rfl) (by rfl) (by rfl) rSlot (by rfl) (by rfl) (by (repeat (first | apply Upd.head | apply Upd.tail | assumption))) (by rfl) (by (simp only [List.drop, List.take, List.nil_append, List.cons_append]); rfl) (by exact Nat.le_of_ble_eq_true rfl) (by rfl) (by (repeat (first | exact List.Sublist.refl _ | exact List.nil_sublist _ | exact List.sublist_append_right _ _ | refine List.Sublist.cons_cons _ ?_ | refine List.Sublist.cons _ ?_))) (by rfl) ?_
  refine wpY_nil ?_
  clear H
  intro _ H
  go_wp2_with (first
      | go_skip
      | ((with_reducible refine isLoad ?_); refine ldO H XP HXP rPart ?_)
      | ((with_reducible refine isLoad ?_); refine ld1A (hT := kParts) H ?_)
      | ((with_reducible refine isLoad ?_); refine ld1A (hT := kSlots) H ?_)
      | ((with_reducible refine isAlloc ?_); refine alA (hz := zPart) H ?_; clear H; intro _ _ H)
      | ((with_reducible refine isAlloc ?_); refine alA (hz := zSlot) H ?_; clear H; intro _ _ H)
      | ((with_reducible refine isStore ?_); refine stA (hT := rPart) H ?_; clear H; intro _ H)
      | ((with_reducible refine isStore ?_); refine stA (hT := rSlot) H ?_; clear H; intro _ H)
      | ((with_reducible refine isLoad ?_); refine ldA H ?_)
      | ((with_reducible refine isLoad ?_); refine ld1A H ?_)
      | ((with_reducible refine isStore ?_); refine stA H ?_; clear H; intro _ H)
      | ((with_reducible refine isStore ?_); refine st1A H ?_; clear H; intro _ H)
      | ((with_reducible refine isBox ?_); refine bxA H ?_; clear H; intro _ _ H)
      | ((with_reducible refine isAlloc ?_); refine alA H ?_; clear H; intro _ _ H))
  exact bodyPost_ret (results_HHv H Tryz.results31 rPart rSlot rfl (by (repeat (first | exact List.Mem.head _ | refine List.Mem.tail _ ?_ | assumption))) rfl (by (repeat (first | exact List.Mem.head _ | refine List.Mem.tail _ ?_ | assumption))) (by rfl) (by rfl) (by rfl)) rfl ⟨rfl, H.out.bel⟩
end Go.Proofs.YtmfejdikfpckdaaGreatDoor

namespace Go.Proofs.YtmfejdikfpckdaaGreatDoor
open Go.RowKit
set_option linter.unusedVariables false
set_option maxRecDepth 100000

theorem Hp.pre {w0 w w' : World} {l m : Ents} (h : Hp w0 w l) (h2 : Hp w w' m) : Hp w0 w' m := (h.join h2).sub (List.sublist_append_left _ _)
theorem VOut.pre {w0 w w' : World} {l : Ents} {v : Value} {s : List (Rat × Rat)} (h : Hp w0 w l) (h2 : VOut w w' v s) : VOut w0 w' v s := by
  obtain ⟨g, c, more, e, hc, H⟩ := h2
  exact ⟨g, c, more, e, hc, h.pre H⟩
theorem put_sz {i j k : Nat} {x y r : Option Rat} {p : Rat × Rat} (Zx : SzO i x) (Zy : SzO i y) (Zr : SzO j r) (Zp : Sz k p.1 ∧ Sz k p.2) : Sz (i + (2 * k + 8 * j + 17) + 1) (putV x y r p).1 ∧ Sz (i + (2 * k + 8 * j + 17) + 1) (putV x y r p).2 :=
  ⟨Sz.add Zx (szrx Zr Zp.1 Zp.2), Sz.add Zy (szry Zr Zp.1 Zp.2)⟩
set_option maxHeartbeats 8000000 in
theorem place_any (v : Value) (ps : List PrtE) (ss : List SltE) (ws : List WalE) (p : PrtE) (s : SltE) (i j : Nat) (w : World) (W : Hid (WkF w v ps ss ws)) (hp : Hid (ps[i]? = some p)) (hs : Hid (ss[j]? = some s)) (Z : Hid (∀ q ∈ p.l, Sz 1 q.1 ∧ Sz 1 q.2)) (C : Hid (FitT.Cvx p.l)) (hl : (p.l.length : Int) ≤ 8) (Zx : Hid (SzO 1 s.x)) (Zy : Hid (SzO 1 s.y)) (Zt : Hid (SzO 1 s.t)) (hps : ps.length ≤ 1000) (hss : ss.length ≤ 1000) (hT : Tb w) :
    Calls Tryz.prog 11 #[v, .int .i64 i, .int .i64 j] w fun e w' => ∃ out, e = .returned (.tuple #[out, .int .i64 0]) ∧ VOut w w' out (p.l.map (putV s.x s.y s.t)) := by
  have H := Lib.hid (Hp.start hT)
  clear hT
  have W0 := W
  obtain ⟨⟨a1, a2, a3, a4, a5, n1, n5, c1, c2, c3, c4, c5, wb, w1, w2, rfl, RW, RP, RS⟩, HPL, HWL⟩ := W.out
  clear W
  have VP := Lib.hid (HPL p (List.mem_of_getElem? hp.out))
  obtain ⟨gs, cs, curS, es, XS0, hxs, hjs⟩ := RS.at_ sltC_len hs.out (by decide)
  cases es
  have XS := Lib.hid XS0
  have HXS : Hid ((curS.drop (14 * j)).take 14 = [.string s.nm, .bool (sgO s.x), .string (nuO s.x), .string (deO s.x), .bool (sgO s.y), .string (nuO s.y), .string (deO s.y), .bool false, .bool (sgO s.t), .string (nuO s.t), .string (deO s.t), .bool (sgO s.by_), .string (nuO s.by_), .string (deO s.by_)]) := hxs
  clear XS0 hxs RP RS HPL RW HWL
  go_enter Tryz.func11, Tryz.ntmps11
  go_wp2_with (first
      | go_skip
      | ((with_reducible refine isLoad ?_); refine ldA (hT := rWks) H ?_)
      | ((with_reducible refine isLoad ?_); refine ldA (hT := rFrame) H ?_)
      | ((with_reducible refine isLoad ?_); refine ld1A (hT := kVecs) H ?_)
      | ((with_reducible refine isAlloc ?_); refine alA (hz := zPart) H ?_; clear H; intro _ _ H)
      | ((with_reducible refine isAlloc ?_); refine alA (hz := zSlot) H ?_; clear H; intro _ _ H)
      | ((with_reducible refine isStore ?_); refine stA (hT := rPart) H ?_; clear H; intro _ H)
      | ((with_reducible refine isStore ?_); refine stA (hT := rSlot) H ?_; clear H; intro _ H)
      | ((with_reducible refine isLoad ?_); refine ldA H ?_)
      | ((with_reducible refine isLoad ?_); refine ld1A H ?_)
      | ((with_reducible refine isStore ?_); refine stA H ?_; clear H; intro _ H)
      | ((with_reducible refine isStore ?_); refine st1A H ?_; clear H; intro _ H)
      | ((with_reducible refine isBox ?_); refine bxA H ?_; clear H; intro _ _ H)
      | ((with_reducible refine isAlloc ?_); refine alA H ?_; clear H; intro _ _ H))
  refine (things_any (k := 1) _ ps ss ws p s i j _ (by decide) (Lib.hid (W0.out.below H.out.bel)) hp hs Z C hl hps hss H.out.tb).mono ?_
  rintro _ _ ⟨rfl, hb⟩
  replace H := Lib.hid (H.out.go hb)
  clear hb
  go_wp2_with (first
      | go_skip
      | ((with_reducible refine isLoad ?_); refine ldA (hT := rWks) H ?_)
      | ((with_reducible refine isLoad ?_); refine ldA (hT := rFrame) H ?_)
      | ((with_reducible refine isLoad ?_); refine ld1A (hT := kVecs) H ?_)
      | ((with_reducible refine isAlloc ?_); refine alA (hz := zPart) H ?_; clear H; intro _ _ H)
      | ((with_reducible refine isAlloc ?_); refine alA (hz := zSlot) H ?_; clear H; intro _ _ H)
      | ((with_reducible refine isStore ?_); refine stA (hT := rPart) H ?_; clear H; intro _ H)
      | ((with_reducible refine isStore ?_); refine stA (hT := rSlot) H ?_; clear H; intro _ H)
      | ((with_reducible refine isLoad ?_); refine ldA H ?_)
      | ((with_reducible refine isLoad ?_); refine ld1A H ?_)
      | ((with_reducible refine isStore ?_); refine stA H ?_; clear H; intro _ H)
      | ((with_reducible refine isStore ?_); refine st1A H ?_; clear H; intro _ H)
      | ((with_reducible refine isBox ?_); refine bxA H ?_; clear H; intro _ _ H)
      | ((with_reducible refine isAlloc ?_); refine alA H ?_; clear H; intro _ _ H))
  refine (frameList_any (i := 1) (j := 1) (k := 1) s.x s.y s.t _ p.l _ (by decide) Zx Zy Zt (Lib.hid (VP.out.below H.out.bel)) Z (by omega) H.out.tb).mono ?_
  rintro _ w5 ⟨out, rfl, hv⟩
  have HV := Lib.hid (hv.pre H.out)
  replace H := Lib.hid (H.out.go hv.bel)
  clear hv
  go_wp2_with (first
      | go_skip
      | ((with_reducible refine isLoad ?_); refine ldA (hT := rWks) H ?_)
      | ((with_reducible refine isLoad ?_); refine ldA (hT := rFrame) H ?_)
      | ((with_reducible refine isLoad ?_); refine ld1A (hT := kVecs) H ?_)
      | ((with_reducible refine isAlloc ?_); refine alA (hz := zPart) H ?_; clear H; intro _ _ H)
      | ((with_reducible refine isAlloc ?_); refine alA (hz := zSlot) H ?_; clear H; intro _ _ H)
      | ((with_reducible refine isStore ?_); refine stA (hT := rPart) H ?_; clear H; intro _ H)
      | ((with_reducible refine isStore ?_); refine stA (hT := rSlot) H ?_; clear H; intro _ H)
      | ((with_reducible refine isLoad ?_); refine ldA H ?_)
      | ((with_reducible refine isLoad ?_); refine ld1A H ?_)
      | ((with_reducible refine isStore ?_); refine stA H ?_; clear H; intro _ H)
      | ((with_reducible refine isStore ?_); refine st1A H ?_; clear H; intro _ H)
      | ((with_reducible refine isBox ?_); refine bxA H ?_; clear H; intro _ _ H)
      | ((with_reducible refine isAlloc ?_); refine alA H ?_; clear H; intro _ _ H))
  go_ret2
  exact ⟨out, rfl, HV.out⟩
end Go.Proofs.YtmfejdikfpckdaaGreatDoor

namespace Go.Proofs.YtmfejdikfpckdaaGreatDoor
open Go.RowKit
set_option linter.unusedVariables false
set_option maxRecDepth 100000

theorem cs_one (v : Rat) : cosQ v * cosQ v + sinQ v * sinQ v = 1 := by
  have h := onesq_ne v
  unfold cosQ sinQ
  rw [Rat.div_def, Rat.div_def]
  have h2 := Rat.mul_inv_cancel _ h
  generalize (((1 : Int) : Rat) + v * v)⁻¹ = i at h2 ⊢
  have h3 : ((1 : Int) : Rat) = 1 := rfl
  rw [h3] at h2 ⊢
  have h4 : ((1 + v * v) * i) * ((1 + v * v) * i) = 1 := by rw [h2]; exact Rat.one_mul 1
  grind
theorem put_cr (x y r : Option Rat) (a b c : Rat × Rat) : FitT.cr (putV x y r a) (putV x y r b) (putV x y r c) = FitT.cr a b c := by
  have h := cs_one (valO r)
  unfold FitT.cr putV rotX rotY
  grind
theorem put_cvx {x y r : Option Rat} {l : List (Rat × Rat)} (h : FitT.Cvx l) : FitT.Cvx (l.map (putV x y r)) := by
  refine ⟨by rw [List.length_map]; exact h.three, fun i j a b c ha hb hc h1 h2 => ?_⟩
  rw [List.length_map] at hb h2
  rw [List.getElem?_map] at ha hb hc
  obtain ⟨a', ha', rfl⟩ := Option.map_eq_some_iff.1 ha
  obtain ⟨b', hb', rfl⟩ := Option.map_eq_some_iff.1 hb
  obtain ⟨c', hc', rfl⟩ := Option.map_eq_some_iff.1 hc
  rw [put_cr]
  exact h.edge i j a' b' c' ha' hb' hc' h1 h2
theorem loose_snoc (t : Rat) (l : List (Rat × Rat)) (p : Rat × Rat) : FitT.looseV t (l ++ [p]) = FitT.looseV t l ++ (FitT.sqC t).map (FitT.vadd p) := by
  unfold FitT.looseV
  rw [List.flatMap_append]; simp
theorem loose_sz {k : Nat} {t : Rat} {l : List (Rat × Rat)} (hl : ∀ q ∈ l, Sz k q.1 ∧ Sz k q.2) (ht : Sz 1 t) : ∀ q ∈ FitT.looseV t l, Sz (k + 1 + 1) q.1 ∧ Sz (k + 1 + 1) q.2 := fun q hq => by
  obtain ⟨v, hv, e, he, rfl⟩ := FitT.looseV_mem.1 hq
  have h1 := hl v hv
  have h2 : Sz 1 e.1 ∧ Sz 1 e.2 := by
    have hn := Sz.neg ht
    simp only [FitT.sqC, List.mem_cons, List.not_mem_nil, or_false] at he
    rcases he with rfl | rfl | rfl | rfl
    · exact ⟨ht, ht⟩
    · exact ⟨ht, hn⟩
    · exact ⟨hn, ht⟩
    · exact ⟨hn, hn⟩
  exact ⟨Sz.add h1.1 h2.1, Sz.add h1.2 h2.2⟩
set_option maxHeartbeats 16000000 in
theorem loose_any (v : Value) (ps : List PrtE) (ss : List SltE) (ws : List WalE) (p : PrtE) (s : SltE) (i j : Nat) (w : World) (W : Hid (WkF w v ps ss ws)) (hp : Hid (ps[i]? = some p)) (hs : Hid (ss[j]? = some s)) (Z : Hid (∀ q ∈ p.l, Sz 1 q.1 ∧ Sz 1 q.2)) (C : Hid (FitT.Cvx p.l)) (hl : (p.l.length : Int) ≤ 8) (Zx : Hid (SzO 1 s.x)) (Zy : Hid (SzO 1 s.y)) (Zt : Hid (SzO 1 s.t)) (Zb : Hid (SzO 1 s.by_)) (hb0 : Hid ((0 : Rat) ≤ valO s.by_)) (hps : ps.length ≤ 1000) (hss : ss.length ≤ 1000) (hT : Tb w) :
    Calls Tryz.prog 10 #[v, .int .i64 i, .int .i64 j] w fun e w' => ∃ out, e = .returned (.tuple #[out, .int .i64 0]) ∧ VOut w w' out (FitT.hullOf (FitT.looseV (valO s.by_) (p.l.map (putV s.x s.y s.t)))) := by
  have H := Lib.hid (Hp.start hT)
  clear hT
  have W0 := W
  obtain ⟨⟨a1, a2, a3, a4, a5, n1, n5, c1, c2, c3, c4, c5, wb, w1, w2, rfl, RW, RP, RS⟩, HPL, HWL⟩ := W.out
  clear W
  have VP := Lib.hid (HPL p (List.mem_of_getElem? hp.out))
  obtain ⟨gs, cs, curS, es, XS0, hxs, hjs⟩ := RS.at_ sltC_len hs.out (by decide)
  cases es
  have XS := Lib.hid XS0
  have HXS : Hid ((curS.drop (14 * j)).take 14 = [.string s.nm, .bool (sgO s.x), .string (nuO s.x), .string (deO s.x), .bool (sgO s.y), .string (nuO s.y), .string (deO s.y), .bool false, .bool (sgO s.t), .string (nuO s.t), .string (deO s.t), .bool (sgO s.by_), .string (nuO s.by_), .string (deO s.by_)]) := hxs
  clear XS0 hxs RP RS HPL RW HWL
  have HXR : Hid ((curS.drop (14 * j + 11)).take 3 = [.bool (sgO s.by_), .string (nuO s.by_), .string (deO s.by_)]) := by
    have h1 := congrArg (List.drop 11) HXS.out
    rw [List.drop_take, List.drop_drop] at h1
    have h2 := congrArg (List.take 3) h1
    rw [List.take_take] at h2
    exact h2
  have CP := Lib.hid (put_cvx (x := s.x) (y := s.y) (r := s.t) C.out)
  have ZP0 : ∀ q ∈ p.l.map (putV s.x s.y s.t), Sz 29 q.1 ∧ Sz 29 q.2 := fun q hq => by
    obtain ⟨q', hq', rfl⟩ := List.mem_map.1 hq
    exact put_sz Zx Zy Zt (Z.out q' hq')
  have hpl : (p.l.map (putV s.x s.y s.t)).length ≤ 8 := by rw [List.length_map]; omega
  obtain ⟨pl, hpl0⟩ : ∃ pl, p.l.map (putV s.x s.y s.t) = pl := ⟨_, rfl⟩
  rw [hpl0] at CP ZP0 hpl
  obtain ⟨t, ht⟩ : ∃ t, valO s.by_ = t := ⟨_, rfl⟩
  have ZT : Hid (Sz 1 t) := by rw [← ht]; exact Zb.out
  have ht0 : (0 : Rat) ≤ t := by rw [← ht]; exact hb0.out
  have Et : Hid ((if valO (some (0 : Rat)) ≤ valO s.by_ then valO s.by_ else valO (some (0 : Rat))) = t) := by unfold Hid; rw [ht]; exact if_pos ht0
  obtain ⟨nt, hnt⟩ : ∃ nt : Rat, Hid (-(valO (some t)) = nt) := ⟨_, rfl⟩
  have ZN : Hid (Sz 1 nt) := by rw [← hnt.out]; exact Sz.neg ZT.out
  have SB : SmO s.by_ := SzO.sm Zb.out (by decide)
  have ST : SmO (some t) := Sz.o ZT.out (by decide)
  have S0 : SmO (some (0 : Rat)) := Sz.o sz0 (by decide)
  have ZL : Hid (∀ q ∈ FitT.looseV t pl, Sz 40 q.1 ∧ Sz 40 q.2) := fun q hq => by
    have h := loose_sz (fun q hq => ZP0 q hq) ZT.out q hq
    exact ⟨h.1.mono (by decide), h.2.mono (by decide)⟩
  have ZP := Lib.hid ZP0
  have HPL := Lib.hid hpl0
  have HT := Lib.hid ht
  rw [ht, hpl0]
  clear hpl0 ht ZP0 ht0
  go_enter Tryz.func10, Tryz.ntmps10
  go_wp2_with (first
      | go_skip
      | ((with_reducible refine isLoad ?_); refine ldA (hT := rWks) H ?_)
      | ((with_reducible refine isLoad ?_); refine ldA H ?_)
      | ((with_reducible refine isLoad ?_); refine ld1A H ?_)
      | ((with_reducible refine isStore ?_); refine stA H ?_; clear H; intro _ H)
      | ((with_reducible refine isStore ?_); refine st1A H ?_; clear H; intro _ H)
      | ((with_reducible refine isBox ?_); refine bxA H ?_; clear H; intro _ _ H)
      | ((with_reducible refine isAlloc ?_); refine alA H ?_; clear H; intro _ _ H))
  refine (place_any _ ps ss ws p s i j _ (Lib.hid (W0.out.below H.out.bel)) hp hs Z C hl Zx Zy Zt hps hss H.out.tb).mono ?_
  rintro _ _ ⟨out, rfl, hv⟩
  rw [HPL.out] at hv
  obtain ⟨gl, cl, morel, hvl, hcl, HV⟩ := hv
  subst hvl
  obtain ⟨n, hn⟩ : ∃ n, pl.length = n := ⟨_, rfl⟩
  rw [hn] at hcl hpl
  rw [hn]
  have HN := Lib.hid hn
  replace H := Lib.hid (H.out.join HV)
  clear hn HV
  go_wp2_with (first
      | go_skip
      | ((with_reducible refine isLoad ?_); refine ldA (hT := rWks) H ?_)
      | ((with_reducible refine isLoad ?_); refine ldA H ?_)
      | ((with_reducible refine isLoad ?_); refine ld1A H ?_)
      | ((with_reducible refine isStore ?_); refine stA H ?_; clear H; intro _ H)
      | ((with_reducible refine isStore ?_); refine st1A H ?_; clear H; intro _ H)
      | ((with_reducible refine isBox ?_); refine bxA H ?_; clear H; intro _ _ H)
      | ((with_reducible refine isAlloc ?_); refine alA H ?_; clear H; intro _ _ H))
  refine wp_region_F1 8 H (by kernel_rfl) (by kernel_rfl) rfl (by simp [Allocs, go_sem]; intro _ _; rfl) ?_
  simp only [List.take_succ_cons, List.take_zero, List.drop_succ_cons, List.drop_zero]
  repeat (first
      | ((with_reducible refine kLoad ?_); refine kld1A (hT := kSlots) H ?_)
      | ((with_reducible refine kLoad ?_); refine kldO H XS HXR rRat ?_)
      | (refine kskA ?_)
      | ((with_reducible refine kLoad ?_); refine kldA H ?_)
      | ((with_reducible refine kLoad ?_); refine kld1A H ?_)
      | ((fail_if_success (with_reducible refine kCall ?_)); (with_reducible refine kCons ?_); refine wpK_step (fun K hK => ?_); go_simp; refine hK _ ?_; clear hK K))
  refine wpK_step (fun K hK => ?_)
  go_simp
  apply Exists.intro
  refine ⟨fun sx => ?_, hK _ ?_⟩
  · go_at_call 22
    exact ROf_any 0 0 _ (by decide) (by decide) (Lib.hid (by rfl)) (H.out.tbx sx)
  clear hK K
  repeat (first
      | ((with_reducible refine kLoad ?_); refine kld1A (hT := kSlots) H ?_)
      | ((with_reducible refine kLoad ?_); refine kldO H XS HXR rRat ?_)
      | (refine kskA ?_)
      | ((with_reducible refine kLoad ?_); refine kldA H ?_)
      | ((with_reducible refine kLoad ?_); refine kld1A H ?_)
      | ((fail_if_success (with_reducible refine kCall ?_)); (with_reducible refine kCons ?_); refine wpK_step (fun K hK => ?_); go_simp; refine hK _ ?_; clear hK K))
  refine wpK_step (fun K hK => ?_)
  go_simp
  apply Exists.intro
  refine ⟨fun sx => ?_, hK _ ?_⟩
  · go_at_call 28
    exact RMax_any s.by_ (some 0) t _ SB S0 Et (H.out.tbx sx)
  clear hK K
  repeat (first
      | ((with_reducible refine kLoad ?_); refine kld1A (hT := kSlots) H ?_)
      | ((with_reducible refine kLoad ?_); refine kldO H XS HXR rRat ?_)
      | (refine kskA ?_)
      | ((with_reducible refine kLoad ?_); refine kldA H ?_)
      | ((with_reducible refine kLoad ?_); refine kld1A H ?_)
      | ((fail_if_success (with_reducible refine kCall ?_)); (with_reducible refine kCons ?_); refine wpK_step (fun K hK => ?_); go_simp; refine hK _ ?_; clear hK K))
  refine wpKeep_nil ?_
  clear H
  intro _ _ H
  (simp only [Act.put, List.setIfInBounds_toArray, List.set_cons_succ, List.set_cons_zero])
  go_wp2_with (first
      | go_skip
      | ((with_reducible refine isLoad ?_); refine ldA (hT := rWks) H ?_)
      | ((with_reducible refine isLoad ?_); refine ldA H ?_)
      | ((with_reducible refine isLoad ?_); refine ld1A H ?_)
      | ((with_reducible refine isStore ?_); refine stA H ?_; clear H; intro _ H)
      | ((with_reducible refine isStore ?_); refine st1A H ?_; clear H; intro _ H)
      | ((with_reducible refine isBox ?_); refine bxA H ?_; clear H; intro _ _ H)
      | ((with_reducible refine isAlloc ?_); refine alA H ?_; clear H; intro _ _ H))
  rename_i g3 W3 W4 g10 W10 W11 K7 hK7
  go_loopw [11, 36] (fun o_ i_ wr => ∃ (m : Nat) (v1 : Value) (cur1 : List Value), o_ = v1 ∧ i_ = .int .i64 m ∧ m ≤ n ∧ Hid (RowV 6 v1 (4 * m) (vecC (FitT.looseV t (pl.take m))) cur1) ∧ Hid (Hp w wr (rowE v1 44 cur1 ++ [(g10, 29, [.bool (sgO (some t)), .string (nuO (some t)), .string (deO (some t))]), (gl, 44, vecC pl ++ morel), (g3, 31, [.slice a1 n1 c1, .slice a2 ws.length c2, .slice a3 ps.length c3, .slice (some ⟨gs, 0, none⟩) ss.length c4, .slice a5 n5 c5, .bool wb, .string w1, .string w2])]))) (fun _ i_ _ => n - (intOf i_).toNat)
  case atStart => exact ⟨0, _, [], rfl, rfl, by omega, RowV.nil 6, H⟩
  case round =>
    clear H
    obtain ⟨m, v1, cur1, ho_, rfl, hm1, R, H⟩ := hrel
    subst ho_
    by_cases hlt : m < n
    · obtain ⟨q, hq⟩ : ∃ q, pl[m]? = some q := ⟨_, List.getElem?_eq_getElem (by have := HN.out; omega)⟩
      have HQ := Lib.hid hq
      have HS : Hid (pl.take (m + 1) = pl.take m ++ [q]) := by unfold Hid; rw [List.take_add_one, hq]; rfl
      have Zq := ZP.out q (List.mem_of_getElem? hq)
      clear hq
      go_wp2_with (first
          | go_skip
          | ((with_reducible refine isLoad ?_); refine ldN H m HQ (by first | exact List.mem_append_right _ (List.Mem.tail _ (List.Mem.head _)) | exact List.mem_cons_of_mem _ (List.mem_append_right _ (List.Mem.tail _ (List.Mem.head _)))) ?_)
          | ((with_reducible refine isLoad ?_); refine ldA H ?_)
          | ((with_reducible refine isLoad ?_); refine ld1A H ?_)
          | ((with_reducible refine isStore ?_); refine stA H ?_; clear H; intro _ H)
          | ((with_reducible refine isStore ?_); refine st1A H ?_; clear H; intro _ H)
          | ((with_reducible refine isBox ?_); refine bxA H ?_; clear H; intro _ _ H)
          | ((with_reducible refine isAlloc ?_); refine alA H ?_; clear H; intro _ _ H))
      refine wp_region_YF [.c (.agg #[.bool (sgO (some t)), .string (nuO (some t)), .string (deO (some t))]), .c (.agg #[.bool (sgO (some t)), .string (nuO (some t)), .string (deO (some t))]), .c (.agg #[.bool (sgO (some t)), .string (nuO (some t)), .string (deO (some t)), .bool (sgO (some t)), .string (nuO (some t)), .string (deO (some t))]), .c (.agg #[.bool (sgO (some t)), .string (nuO (some t)), .string (deO (some t))]), .c (.agg #[.bool (sgO (some t)), .string (nuO (some t)), .string (deO (some t))]), .y, .c (.agg #[.bool (sgO (some t)), .string (nuO (some t)), .string (deO (some t)), .bool (sgO (some nt)), .string (nuO (some nt)), .string (deO (some nt))]), .c (.agg #[.bool (sgO (some t)), .string (nuO (some t)), .string (deO (some t))]), .y, .c (.agg #[.bool (sgO (some t)), .string (nuO (some t)), .string (deO (some t))]), .c (.agg #[.bool (sgO (some nt)), .string (nuO (some nt)), .string (deO (some nt)), .bool (sgO (some t)), .string (nuO (some t)), .string (deO (some t))]), .c (.agg #[.bool (sgO (some t)), .string (nuO (some t)), .string (deO (some t))]), .y, .c (.agg #[.bool (sgO (some t)), .string (nuO (some t)), .string (deO (some t))]), .y, .c (.agg #[.bool (sgO (some nt)), .string (nuO (some nt)), .string (deO (some nt)), .bool (sgO (some nt)), .string (nuO (some nt)), .string (deO (some nt))]), .a, .c (.int .i64 4), .c (.int .i64 0)] ([(g10, 29, [.bool (sgO (some t)), .string (nuO (some t)), .string (deO (some t))]), (gl, 44, vecC pl ++ morel), (g3, 31, [.slice a1 n1 c1, .slice a2 ws.length c2, .slice a3 ps.length c3, .slice (some ⟨gs, 0, none⟩) ss.length c4, .slice a5 n5 c5, .bool wb, .string w1, .string w2])]) H (by (repeat (first | exact List.Sublist.refl _ | exact List.nil_sublist _ | exact List.sublist_append_right _ _ | refine List.Sublist.cons_cons _ ?_ | refine List.Sublist.cons _ ?_))) (by kernel_rfl) (by kernel_rfl) (by kernel_rfl) ?_
      refine wpY_load (by rfl) (by rfl) (by (first | exact wanted_none rfl | exact wanted_some rfl rfl)) rRat (by rfl) (by (repeat (first | exact List.Mem.head _ | refine List.Mem.tail _ ?_ | assumption))) (by first | rfl | ((simp only [List.drop, List.take]); rfl)) (by rfl) ?_
      (simp only [Act.put, List.setIfInBounds_toArray, List.set_cons_succ, List.set_cons_zero])
      refine wpY_load (by rfl) (by rfl) (by (first | exact wanted_none rfl | exact wanted_some rfl rfl)) rRat (by rfl) (by (repeat (first | exact List.Mem.head _ | refine List.Mem.tail _ ?_ | assumption))) (by first | rfl | ((simp only [List.drop, List.take]); rfl)) (by rfl) ?_
      (simp only [Act.put, List.setIfInBounds_toArray, List.set_cons_succ, List.set_cons_zero])
      refine wpY_c (by rfl) (by (first | exact wanted_none rfl | exact wanted_some rfl rfl)) (by intro W _; first | (go_simp; rfl) | (go_simp; done) | (trace_state; fail)) ?_
      (simp only [Act.put, List.setIfInBounds_toArray, List.set_cons_succ, List.set_cons_zero])
      refine wpY_load (by rfl) (by rfl) (by (first | exact wanted_none rfl | exact wanted_some rfl rfl)) rRat (by rfl) (by (repeat (first | exact List.Mem.head _ | refine List.Mem.tail _ ?_ | assumption))) (by first | rfl | ((simp only [List.drop, List.take]); rfl)) (by rfl) ?_
      (simp only [Act.put, List.setIfInBounds_toArray, List.set_cons_succ, List.set_cons_zero])
      refine wpY_load (by rfl) (by rfl) (by (first | exact wanted_none rfl | exact wanted_some rfl rfl)) rRat (by rfl) (by (repeat (first | exact List.Mem.head _ | refine List.Mem.tail _ ?_ | assumption))) (by first | rfl | ((simp only [List.drop, List.take]); rfl)) (by rfl) ?_
      (simp only [Act.put, List.setIfInBounds_toArray, List.set_cons_succ, List.set_cons_zero])
      refine wpY_y (by rfl) (by (first | exact wanted_none rfl | exact wanted_some rfl rfl)) (fun G F W HF hG => ?_)
      go_simp
      unfold upY
      refine Calls.mono (RNeg_any (some t) nt _ ST hnt HF.out.tb) ?_
      rintro _ W2 ⟨rfl, hb⟩
      refine ⟨_, rfl, hG _ W2 _ (HF.out.go hb) (by (repeat (first | exact List.Sublist.refl _ | exact List.nil_sublist _ | exact List.sublist_append_right _ _ | refine List.Sublist.cons_cons _ ?_ | refine List.Sublist.cons _ ?_))) (fun x _ => Iff.rfl) ?_⟩
      clear hG hb HF
      clear G F W W2
      (simp only [Act.put, List.setIfInBounds_toArray, List.set_cons_succ, List.set_cons_zero])
      refine wpY_c (by rfl) (by (first | exact wanted_none rfl | exact wanted_some rfl rfl)) (by intro W _; first | (go_simp; rfl) | (go_simp; done) | (trace_state; fail)) ?_
      (simp only [Act.put, List.setIfInBounds_toArray, List.set_cons_succ, List.set_cons_zero])
      refine wpY_load (by rfl) (by rfl) (by (first | exact wanted_none rfl | exact wanted_some rfl rfl)) rRat (by rfl) (by (repeat (first | exact List.Mem.head _ | refine List.Mem.tail _ ?_ | assumption))) (by first | rfl | ((simp only [List.drop, List.take]); rfl)) (by rfl) ?_
      (simp only [Act.put, List.setIfInBounds_toArray, List.set_cons_succ, List.set_cons_zero])
      refine wpY_y (by rfl) (by (first | exact wanted_none rfl | exact wanted_some rfl rfl)) (fun G F W HF hG => ?_)
      go_simp
      unfold upY
      refine Calls.mono (RNeg_any (some t) nt _ ST hnt HF.out.tb) ?_
      rintro _ W2 ⟨rfl, hb⟩
      refine ⟨_, rfl, hG _ W2 _ (HF.out.go hb) (by (repeat (first | exact List.Sublist.refl _ | exact List.nil_sublist _ | exact List.sublist_append_right _ _ | refine List.Sublist.cons_cons _ ?_ | refine List.Sublist.cons _ ?_))) (fun x _ => Iff.rfl) ?_⟩
      clear hG hb HF
      clear G F W W2
      (simp only [Act.put, List.setIfInBounds_toArray, List.set_cons_succ, List.set_cons_zero])
      refine wpY_load (by rfl) (by rfl) (by (first | exact wanted_none rfl | exact wanted_some rfl rfl)) rRat (by rfl) (by (repeat (first | exact List.Mem.head _ | refine List.Mem.tail _ ?_ | assumption))) (by first | rfl | ((simp only [List.drop, List.take]); rfl)) (by rfl) ?_
      (simp only [Act.put, List.setIfInBounds_toArray, List.set_cons_succ, List.set_cons_zero])
      refine wpY_c (by rfl) (by (first | exact wanted_none rfl | exact wanted_some rfl rfl)) (by intro W _; first | (go_simp; rfl) | (go_simp; done) | (trace_state; fail)) ?_
      (simp only [Act.put, List.setIfInBounds_toArray, List.set_cons_succ, List.set_cons_zero])
      refine wpY_load (by rfl) (by rfl) (by (first | exact wanted_none rfl | exact wanted_some rfl rfl)) rRat (by rfl) (by (repeat (first | exact List.Mem.head _ | refine List.Mem.tail _ ?_ | assumption))) (by first | rfl | ((simp only [List.drop, List.take]); rfl)) (by rfl) ?_
      (simp only [Act.put, List.setIfInBounds_toArray, List.set_cons_succ, List.set_cons_zero])
      refine wpY_y (by rfl) (by (first | exact wanted_none rfl | exact wanted_some rfl rfl)) (fun G F W HF hG => ?_)
      go_simp
      unfold upY
      refine Calls.mono (RNeg_any (some t) nt _ ST hnt HF.out.tb) ?_
      rintro _ W2 ⟨rfl, hb⟩
      refine ⟨_, rfl, hG _ W2 _ (HF.out.go hb) (by (repeat (first | exact List.Sublist.refl _ | exact List.nil_sublist _ | exact List.sublist_append_right _ _ | refine List.Sublist.cons_cons _ ?_ | refine List.Sublist.cons _ ?_))) (fun x _ => Iff.rfl) ?_⟩
      clear hG hb HF
      clear G F W W2
      (simp only [Act.put, List.setIfInBounds_toArray, List.set_cons_succ, List.set_cons_zero])
      refine wpY_load (by rfl) (by rfl) (by (first | exact wanted_none rfl | exact wanted_some rfl rfl)) rRat (by rfl) (by (repeat (first | exact List.Mem.head _ | refine List.Mem.tail _ ?_ | assumption))) (by first | rfl | ((simp only [List.drop, List.take]); rfl)) (by rfl) ?_
      (simp only [Act.put, List.setIfInBounds_toArray, List.set_cons_succ, List.set_cons_zero])
      refine wpY_y (by rfl) (by (first | exact wanted_none rfl | exact wanted_some rfl rfl)) (fun G F W HF hG => ?_)
      go_simp
      unfold upY
      refine Calls.mono (RNeg_any (some t) nt _ ST hnt HF.out.tb) ?_
      rintro _ W2 ⟨rfl, hb⟩
      refine ⟨_, rfl, hG _ W2 _ (HF.out.go hb) (by (repeat (first | exact List.Sublist.refl _ | exact List.nil_sublist _ | exact List.sublist_append_right _ _ | refine List.Sublist.cons_cons _ ?_ | refine List.Sublist.cons _ ?_))) (fun x _ => Iff.rfl) ?_⟩
      clear hG hb HF
      clear G F W W2
      (simp only [Act.put, List.setIfInBounds_toArray, List.set_cons_succ, List.set_cons_zero])
      refine wpY_c (by rfl) (by (first | exact wanted_none rfl | exact wanted_some rfl rfl)) (by intro W _; first | (go_simp; rfl) | (go_simp; done) | (trace_state; fail)) ?_
      (simp only [Act.put, List.setIfInBounds_toArray, List.set_cons_succ, List.set_cons_zero])
      refine wpY_V 44 ([.bool (sgO (some t)), .string (nuO (some t)), .string (deO (some t)), .bool (sgO (some t)), .string (nuO (some t)), .string (deO (some t)), .bool (sgO (some t)), .string (nuO (some t)), .string (deO (some t)), .bool (sgO (some nt)), .string (nuO (some nt)), .string (deO (some nt)), .bool (sgO (some nt)), .string (nuO (some nt)), .string (deO (some nt)), .bool (sgO (some t)), .string (nuO (some t)), .string (deO (some t)), .bool (sgO (some nt)), .string (nuO (some nt)), .string (deO (some nt)), .bool (sgO (some nt)), .string (nuO (some nt)), .string (deO (some nt))]) 4 (by rfl) (by rfl) (by intro W; kernel_rfl) ?_
      intro b4
      (simp only [Act.put, List.setIfInBounds_toArray, List.set_cons_succ, List.set_cons_zero])
      refine wpY_c (by rfl) (by (first | exact wanted_none rfl | exact wanted_some rfl rfl)) (by intro W _; first | (go_simp; rfl) | (go_simp; done) | (trace_state; fail)) ?_
      (simp only [Act.put, List.setIfInBounds_toArray, List.set_cons_succ, List.set_cons_zero])
      refine wpY_c (by rfl) (by (first | exact wanted_none rfl | exact wanted_some rfl rfl)) (by intro W _; first | (go_simp; rfl) | (go_simp; done) | (trace_state; fail)) ?_
      (simp only [Act.put, List.setIfInBounds_toArray, List.set_cons_succ, List.set_cons_zero])
      refine wpY_nil ?_
      clear H
      intro _ H
      go_wp2_with (first
          | go_skip
          | ((with_reducible refine isLoad ?_); refine ldN H m HQ (by first | exact List.mem_append_right _ (List.Mem.tail _ (List.Mem.head _)) | exact List.mem_cons_of_mem _ (List.mem_append_right _ (List.Mem.tail _ (List.Mem.head _)))) ?_)
          | ((with_reducible refine isLoad ?_); refine ldA H ?_)
          | ((with_reducible refine isLoad ?_); refine ld1A H ?_)
          | ((with_reducible refine isStore ?_); refine stA H ?_; clear H; intro _ H)
          | ((with_reducible refine isStore ?_); refine st1A H ?_; clear H; intro _ H)
          | ((with_reducible refine isBox ?_); refine bxA H ?_; clear H; intro _ _ H)
          | ((with_reducible refine isAlloc ?_); refine alA H ?_; clear H; intro _ _ H))
      rename_i g13 W13 W14 W15
      have HSQ : Hid (FitT.sqC t = [(t, t), (t, nt), (nt, t), (nt, nt)]) := by unfold Hid FitT.sqC; rw [← hnt.out]; rfl
      go_loopw [11, 58] (fun o_ i_ wr => ∃ (jj : Nat) (v2 : Value) (cur2 : List Value), o_ = v2 ∧ i_ = .int .i64 jj ∧ jj ≤ 4 ∧ Hid (RowV 6 v2 (4 * m + jj) (vecC (FitT.looseV t (pl.take m) ++ ((FitT.sqC t).take jj).map (FitT.vadd q))) cur2) ∧ Hid (Hp w wr ([(b4, 44, vecC [(t, t), (t, nt), (nt, t), (nt, nt)] ++ []), (g13, 44, [.bool (sgO (some q.1)), .string (nuO (some q.1)), .string (deO (some q.1)), .bool (sgO (some q.2)), .string (nuO (some q.2)), .string (deO (some q.2))])] ++ (rowE v2 44 cur2 ++ [(g10, 29, [.bool (sgO (some t)), .string (nuO (some t)), .string (deO (some t))]), (gl, 44, vecC pl ++ morel), (g3, 31, [.slice a1 n1 c1, .slice a2 ws.length c2, .slice a3 ps.length c3, .slice (some ⟨gs, 0, none⟩) ss.length c4, .slice a5 n5 c5, .bool wb, .string w1, .string w2])])))) (fun _ i_ _ => 4 - (intOf i_).toNat)
      case atStart => exact ⟨0, _, cur1, rfl, rfl, by omega, by simpa using R, H⟩
      case round =>
        clear H R
        obtain ⟨jj, v2, cur2, ho_, rfl, hj4, R, H⟩ := hrel
        subst ho_
        by_cases hlt2 : jj < 4
        · obtain ⟨d, hd⟩ : ∃ d, (FitT.sqC t)[jj]? = some d := ⟨_, List.getElem?_eq_getElem (by rw [HSQ.out]; exact hlt2)⟩
          have HD : Hid ([(t, t), (t, nt), (nt, t), (nt, nt)][jj]? = some d) := by rw [← HSQ.out]; exact hd
          have HJ : Hid ((FitT.sqC t).take (jj + 1) = (FitT.sqC t).take jj ++ [d]) := by unfold Hid; rw [List.take_add_one, hd]; rfl
          have hdm : d ∈ [(t, t), (t, nt), (nt, t), (nt, nt)] := List.mem_of_getElem? HD.out
          have Zd : Hid (Sz 1 d.1) ∧ Hid (Sz 1 d.2) := by
            simp only [List.mem_cons, List.not_mem_nil, or_false] at hdm
            rcases hdm with rfl | rfl | rfl | rfl
            · exact ⟨ZT, ZT⟩
            · exact ⟨ZT, ZN⟩
            · exact ⟨ZN, ZT⟩
            · exact ⟨ZN, ZN⟩
          obtain ⟨u1, hu1⟩ : ∃ u : Rat, Hid (valO (some q.1) + valO (some d.1) = u) := ⟨_, rfl⟩
          obtain ⟨u2, hu2⟩ : ∃ u : Rat, Hid (valO (some q.2) + valO (some d.2) = u) := ⟨_, rfl⟩
          have HU : Hid (FitT.vadd q d = (u1, u2)) := by unfold Hid FitT.vadd; rw [← hu1.out, ← hu2.out]; rfl
          clear hd hdm
          go_wp2_with (first
              | go_skip
              | ((with_reducible refine isLoad ?_); refine ldN H jj HD (by (repeat (first | exact List.Mem.head _ | refine List.Mem.tail _ ?_ | assumption))) ?_)
              | ((with_reducible refine isSlc ?_); refine bsA 44 ([.bool (sgO (some u1)), .string (nuO (some u1)), .string (deO (some u1)), .bool (sgO (some u2)), .string (nuO (some u2)), .string (deO (some u2))]) 1 H (fun b1 W1 H1 => ?_); clear H; have H := H1; clear H1)
              | ((with_reducible refine isLoad ?_); refine ldA H ?_)
              | ((with_reducible refine isLoad ?_); refine ld1A H ?_)
              | ((with_reducible refine isStore ?_); refine stA H ?_; clear H; intro _ H)
              | ((with_reducible refine isStore ?_); refine st1A H ?_; clear H; intro _ H)
              | ((with_reducible refine isBox ?_); refine bxA H ?_; clear H; intro _ _ H)
              | ((with_reducible refine isAlloc ?_); refine alA H ?_; clear H; intro _ _ H))
          refine (vecAdd_any (j := 29) (k := 1) (some q.1) (some q.2) (some d.1) (some d.2) u1 u2 _ (by decide) Zq.1 Zq.2 Zd.1 Zd.2 hu1 hu2 H.out.tb).mono ?_
          rintro _ _ ⟨rfl, hb⟩
          replace H := Lib.hid (H.out.go hb)
          clear hb
          rename_i g15 W15 W16 K9 hK9 W17
          go_wp2_with (first
              | go_skip
              | ((with_reducible refine isLoad ?_); refine ldA H ?_)
              | ((with_reducible refine isSlc ?_); refine bsA 44 ([.bool (sgO (some u1)), .string (nuO (some u1)), .string (deO (some u1)), .bool (sgO (some u2)), .string (nuO (some u2)), .string (deO (some u2))]) 1 H (fun b1 W1 H1 => ?_); clear H; have H := H1; clear H1)
              | ((with_reducible refine isApp ?_); refine wpList_appH [(b1, 44, [.bool (sgO (some u1)), .string (nuO (some u1)), .string (deO (some u1)), .bool (sgO (some u2)), .string (nuO (some u2)), .string (deO (some u2))]), (g15, 44, [.bool (sgO (some d.1)), .string (nuO (some d.1)), .string (deO (some d.1)), .bool (sgO (some d.2)), .string (nuO (some d.2)), .string (deO (some d.2))]), (b4, 44, vecC [(t, t), (t, nt), (nt, t), (nt, nt)] ++ []), (g13, 44, [.bool (sgO (some q.1)), .string (nuO (some q.1)), .string (deO (some q.1)), .bool (sgO (some q.2)), .string (nuO (some q.2)), .string (deO (some q.2))])] [(g10, 29, [.bool (sgO (some t)), .string (nuO (some t)), .string (deO (some t))]), (gl, 44, vecC pl ++ morel), (g3, 31, [.slice a1 n1 c1, .slice a2 ws.length c2, .slice a3 ps.length c3, .slice (some ⟨gs, 0, none⟩) ss.length c4, .slice a5 n5 c5, .bool wb, .string w1, .string w2])] H R (by rfl) iVecT (by decide) uVecs (by rfl) (by rfl) (by rfl) (by rfl) (.head _) (by rfl) (by rfl) (by decide) (by unfold maxLen; omega) (by omega) (fun v4 cur4 W4 R4 H4 => ?_); clear H R; have R := R4; have H := Lib.hid (H4.out.drop.drop); clear R4 H4; simp only [Act.put, List.setIfInBounds_toArray, List.set_cons_succ, List.set_cons_zero])
              | ((with_reducible refine isLoad ?_); refine ld1A H ?_)
              | ((with_reducible refine isStore ?_); refine stA H ?_; clear H; intro _ H)
              | ((with_reducible refine isStore ?_); refine st1A H ?_; clear H; intro _ H)
              | ((with_reducible refine isBox ?_); refine bxA H ?_; clear H; intro _ _ H)
              | ((with_reducible refine isAlloc ?_); refine alA H ?_; clear H; intro _ _ H))
          have R5 : Hid (RowV 6 v4 (4 * m + (jj + 1)) (vecC (FitT.looseV t (pl.take m) ++ ((FitT.sqC t).take (jj + 1)).map (FitT.vadd q))) cur4) := by
            rw [HJ.out, List.map_append, ← List.append_assoc, List.map_cons, List.map_nil, HU.out, vecC_snoc]
            exact R
          go_roundw
          case rel => exact ⟨jj + 1, v4, cur4, rfl, by go_num, by omega, R5, H⟩
          case measure => simp [intOf]; omega
        · have hj5 : jj = 4 := by omega
          subst hj5
          go_wp2_with (first
              | go_skip
              | ((with_reducible refine isLoad ?_); refine ldA H ?_)
              | ((with_reducible refine isLoad ?_); refine ld1A H ?_)
              | ((with_reducible refine isStore ?_); refine stA H ?_; clear H; intro _ H)
              | ((with_reducible refine isStore ?_); refine st1A H ?_; clear H; intro _ H)
              | ((with_reducible refine isBox ?_); refine bxA H ?_; clear H; intro _ _ H)
              | ((with_reducible refine isAlloc ?_); refine alA H ?_; clear H; intro _ _ H))
          have R5 := R.out
          rw [show (FitT.sqC t).take 4 = FitT.sqC t from rfl, ← loose_snoc, ← HS.out, show 4 * m + 4 = 4 * (m + 1) by omega] at R5
          replace R := Lib.hid R5
          replace H := Lib.hid (H.out.drop.drop)
          clear R5
          go_roundw
          case rel => exact ⟨m + 1, _, cur2, rfl, by go_num, by omega, R, H⟩
          case measure => simp [intOf]; omega
    · have hmn : m = n := by omega
      have h3 := CP.out.three
      rw [HN.out] at h3
      have HTK : Hid (pl.take m = pl) := List.take_of_length_le (by rw [HN.out]; omega)
      rw [HTK.out] at R
      obtain ⟨ga, ca, morea, hva, hca, _, hcur⟩ := R.out.some_ (by omega)
      subst hva; subst hcur
      have HLL : Hid ((FitT.looseV t pl).length = 4 * m) := by unfold Hid; rw [FitT.looseV_len, HN.out]; omega
      subst hmn
      go_wp2_with (first
          | go_skip
          | ((with_reducible refine isLoad ?_); refine ldA H ?_)
          | ((with_reducible refine isLoad ?_); refine ld1A H ?_)
          | ((with_reducible refine isStore ?_); refine stA H ?_; clear H; intro _ H)
          | ((with_reducible refine isStore ?_); refine st1A H ?_; clear H; intro _ H)
          | ((with_reducible refine isBox ?_); refine bxA H ?_; clear H; intro _ _ H)
          | ((with_reducible refine isAlloc ?_); refine alA H ?_; clear H; intro _ _ H))
      have VA : VAt wr (.slice (some ⟨ga, 0, none⟩) (4 * m) ca) (FitT.looseV t pl) := ⟨ga, ca, 44, morea, by rw [HLL.out], by rw [HLL.out]; exact hca, (H.out.blk _ (.head _)).2⟩
      have hH := hull_any _ _ _ (Lib.hid VA) ZL (by rw [HLL.out]; omega) (FitT.loose_tri (t := t) CP.out) H.out.tb
      refine hH.mono ?_
      clear hH VA
      rintro _ w9 ⟨out, rfl, hv⟩
      have HV := Lib.hid (hv.pre H.out)
      replace H := Lib.hid (H.out.go hv.bel)
      clear hv
      go_wp2_with (first
          | go_skip
          | ((with_reducible refine isLoad ?_); refine ldA H ?_)
          | ((with_reducible refine isLoad ?_); refine ld1A H ?_)
          | ((with_reducible refine isStore ?_); refine stA H ?_; clear H; intro _ H)
          | ((with_reducible refine isStore ?_); refine st1A H ?_; clear H; intro _ H)
          | ((with_reducible refine isBox ?_); refine bxA H ?_; clear H; intro _ _ H)
          | ((with_reducible refine isAlloc ?_); refine alA H ?_; clear H; intro _ _ H))
      go_ret2
      exact ⟨out, rfl, HV.out⟩
end Go.Proofs.YtmfejdikfpckdaaGreatDoor

namespace Go.Proofs.YtmfejdikfpckdaaGreatDoor
open Go.RowKit
set_option linter.unusedVariables false
set_option maxRecDepth 100000

/-- What is asked of a part, of a slot. -/
structure POK (p : PrtE) : Prop where
  z : ∀ q ∈ p.l, Sz 1 q.1 ∧ Sz 1 q.2
  c : FitT.Cvx p.l
  l : (p.l.length : Int) ≤ 8
structure SOK (s : SltE) : Prop where
  x : SzO 1 s.x
  y : SzO 1 s.y
  t : SzO 1 s.t
  b : SzO 1 s.by_
  b0 : (0 : Rat) ≤ valO s.by_
def plc (p : PrtE) (s : SltE) : List (Rat × Rat) := p.l.map (putV s.x s.y s.t)
def lzF (p : PrtE) (s : SltE) : List (Rat × Rat) := FitT.hullOf (FitT.looseV (valO s.by_) (plc p s))
theorem plc_cvx {p : PrtE} {s : SltE} (hp : POK p) : FitT.Cvx (plc p s) := put_cvx hp.c
theorem plc_sz {p : PrtE} {s : SltE} (hp : POK p) (hs : SOK s) : ∀ q ∈ plc p s, Sz 29 q.1 ∧ Sz 29 q.2 := fun q hq => by
  obtain ⟨q', hq', rfl⟩ := List.mem_map.1 hq
  exact put_sz hs.x hs.y hs.t (hp.z q' hq')
theorem lz_cvx {p : PrtE} {s : SltE} (hp : POK p) : FitT.Cvx (lzF p s) := FitT.hull_ok (plc_cvx hp)
theorem lz_len {p : PrtE} {s : SltE} (hp : POK p) : ((lzF p s).length : Int) ≤ 64 := by
  have h1 := FitT.hullOf_len (FitT.looseV (valO s.by_) (plc p s))
  have h2 := FitT.looseV_len (valO s.by_) (plc p s)
  have h3 : (plc p s).length = p.l.length := List.length_map ..
  have := hp.l
  unfold lzF
  omega
theorem lz_sz {p : PrtE} {s : SltE} (hp : POK p) (hs : SOK s) : ∀ q ∈ lzF p s, Sz 40 q.1 ∧ Sz 40 q.2 := fun q hq => by
  have h := loose_sz (plc_sz hp hs) hs.b q ((FitT.hullOf_ok (FitT.loose_tri (t := valO s.by_) (plc_cvx hp))).2.1 q hq)
  exact ⟨h.1.mono (by decide), h.2.mono (by decide)⟩
theorem looseF_any (v : Value) (ps : List PrtE) (ss : List SltE) (ws : List WalE) (p : PrtE) (s : SltE) (i j : Nat) (w : World) (W : Hid (WkF w v ps ss ws)) (hp : Hid (ps[i]? = some p)) (hs : Hid (ss[j]? = some s)) (hP : POK p) (hS : SOK s) (hps : ps.length ≤ 1000) (hss : ss.length ≤ 1000) (hT : Tb w) :
    Calls Tryz.prog 10 #[v, .int .i64 i, .int .i64 j] w fun e w' => ∃ out, e = .returned (.tuple #[out, .int .i64 0]) ∧ VOut w w' out (lzF p s) :=
  loose_any v ps ss ws p s i j w W hp hs hP.z hP.c hP.l hS.x hS.y hS.t hS.b hS.b0 hps hss hT
end Go.Proofs.YtmfejdikfpckdaaGreatDoor

namespace Go.Proofs.YtmfejdikfpckdaaGreatDoor
open Go.RowKit
set_option linter.unusedVariables false
set_option maxRecDepth 100000

theorem Upd.in_ {l l' : Ents} {b : Nat} {T : TypeId} {cs ds : List Value} (h : Upd l b T cs ds l') : b ∈ l.map (·.1) := List.mem_map.2 ⟨_, h.mem, rfl⟩
theorem Upd.comp {l l1 l2 : Ents} {b : Nat} {T : TypeId} {cs ds es : List Value} (h : Upd l b T cs ds l1) : (l.map (·.1)).Nodup → Upd l1 b T ds es l2 → Upd l b T cs es l2 := by
  induction h generalizing l2 with
  | head =>
    intro hn h2
    cases h2 with
    | head => exact .head
    | tail h3 => exact absurd h3.in_ (List.nodup_cons.1 hn).1
  | tail h1 ih =>
    intro hn h2
    cases h2 with
    | head => exact absurd h1.in_ (List.nodup_cons.1 hn).1
    | tail h3 => exact .tail (ih (List.nodup_cons.1 hn).2 h3)
theorem Upd.det {l l1 l2 : Ents} {b : Nat} {T : TypeId} {cs ds : List Value} (h : Upd l b T cs ds l1) : (l.map (·.1)).Nodup → Upd l b T cs ds l2 → l2 = l1 := by
  induction h generalizing l2 with
  | head =>
    intro hn h2
    cases h2 with
    | head => rfl
    | tail h3 => exact absurd h3.in_ (List.nodup_cons.1 hn).1
  | tail h1 ih =>
    intro hn h2
    cases h2 with
    | head => exact absurd h1.in_ (List.nodup_cons.1 hn).1
    | tail h3 => rw [ih (List.nodup_cons.1 hn).2 h3]
set_option maxHeartbeats 8000000 in
theorem poly2_any {w0 w : World} {m : Ents} (S : Sd) (g : Nat) (H : Hid (Hp w0 w m)) (hS : Hid (S.ok w0)) (hm : (g, 93, [S.v]) ∈ m) :
    Calls Tryz.prog 50 #[.pointer (some ⟨g, 0, none⟩)] w fun e w' => ∃ (b : Nat) (S' : Sd) (m' : Ents), e = .returned (.slice (some ⟨b, 0, none⟩) (polyL S).length (polyL S).length) ∧ S'.ok w0 ∧ Upd m g 93 [S.v] [S'.v] m' ∧ Hp w0 w' ((b, 44, vecC (polyL S)) :: m') := by
  obtain ⟨m1, hm1⟩ := upd_of_mem [S.sn.v] hm
  obtain ⟨m2, hm2⟩ := upd_of_mem [S.s2.v] hm1.mem2
  obtain ⟨m3, hm3⟩ := upd_of_mem [S.s2.sn.v] hm2.mem2
  have U1 := Lib.hid hm1
  have U2 := Lib.hid hm2
  have U3 := Lib.hid hm3
  have HS1 := Lib.hid hS.out.next
  have HS2 := Lib.hid hS.out.s2
  have HS3 := Lib.hid hS.out.s2.next
  have n1 := S.nx_bd 6 (by decide)
  have n2 := S.sn.nx_bd 6 (by decide)
  have n3 := S.s2.nx_bd 4 (by decide)
  obtain ⟨a, ha⟩ : ∃ a : Int, 1 + S.nx 6 = a := ⟨_, rfl⟩
  obtain ⟨h, hh⟩ : ∃ h : Int, 1 + S.sn.nx 6 = h := ⟨_, rfl⟩
  have a1 : 1 ≤ a ∧ a ≤ 6 := by omega
  have h1 : 1 ≤ h ∧ h ≤ 6 := by omega
  obtain ⟨a1l, a1r⟩ := a1
  obtain ⟨h1l, h1r⟩ := h1
  have wa : IntKind.i64.wrap (1 + S.nx 6) = a := by rw [ha]; exact IntWalk.i64_in _ (by omega)
  have wh : IntKind.i64.wrap (1 + S.sn.nx 6) = h := by rw [hh]; exact IntWalk.i64_in _ (by omega)
  have wna : IntKind.i64.wrap (-a) = -a := IntWalk.i64_in _ (by omega)
  have wnh : IntKind.i64.wrap (-h) = -h := IntWalk.i64_in _ (by omega)
  have L0 := polyL_at S ha hh
  have U5 := Lib.hid ((hm1.comp H.out.nd hm2).comp H.out.nd hm3)
  have ND := Lib.hid H.out.nd
  clear hm hm1 hm2 hm3 n1 n2 ha hh
  by_cases c0 : S.s2.nx 4 = 0
  · have L1 := L0.1 c0
    clear L0
    obtain ⟨an, Ean⟩ : ∃ z : Rat, Hid (ofQ (-a) 4 = z) := ⟨_, rfl⟩
    obtain ⟨hn, Ehn⟩ : ∃ z : Rat, Hid (ofQ (-h) 4 = z) := ⟨_, rfl⟩
    obtain ⟨ap, Eap⟩ : ∃ z : Rat, Hid (ofQ a 4 = z) := ⟨_, rfl⟩
    obtain ⟨hp, Ehp⟩ : ∃ z : Rat, Hid (ofQ h 4 = z) := ⟨_, rfl⟩
    rw [Ean.out, Ehn.out, Eap.out, Ehp.out] at L1
    rw [L1]
    clear L1
    go_enter Tryz.func50, Tryz.ntmps50
    go_wp2_with (first
        | go_skip)
    refine (nextH_any S g 6 H hS U1 (by decide) (by decide)).mono ?_
    rintro _ _ ⟨rfl, H2⟩
    replace H := Lib.hid H2
    clear H2
    go_wp2_with (first
        | go_skip)
    refine (nextH_any S.sn g 6 H HS1 U2 (by decide) (by decide)).mono ?_
    rintro _ _ ⟨rfl, H2⟩
    replace H := Lib.hid H2
    clear H2
    go_wp2_with (first
        | go_skip)
    refine (nextH_any S.s2 g 4 H HS2 U3 (by decide) (by decide)).mono ?_
    rintro _ _ ⟨rfl, H2⟩
    replace H := Lib.hid H2
    clear H2
    go_wp2_with (first
        | go_skip)
    refine (makeAt_any (-a) (-h) an hn _ (by omega) (by omega) H.out.tb Ean Ehn).mono ?_
    rintro _ _ ⟨rfl, hb⟩
    replace H := Lib.hid (H.out.go hb)
    clear hb
    go_wp2_with (first
        | go_skip)
    refine (makeAt_any (a) (-h) ap hn _ (by omega) (by omega) H.out.tb Eap Ehn).mono ?_
    rintro _ _ ⟨rfl, hb⟩
    replace H := Lib.hid (H.out.go hb)
    clear hb
    go_wp2_with (first
        | go_skip)
    refine (makeAt_any (a) (h) ap hp _ (by omega) (by omega) H.out.tb Eap Ehp).mono ?_
    rintro _ _ ⟨rfl, hb⟩
    replace H := Lib.hid (H.out.go hb)
    clear hb
    go_wp2_with (first
        | go_skip)
    refine (makeAt_any (-a) (h) an hp _ (by omega) (by omega) H.out.tb Ean Ehp).mono ?_
    rintro _ _ ⟨rfl, hb⟩
    replace H := Lib.hid (H.out.go hb)
    clear hb
    go_wp2_with (first
        | ((with_reducible refine isSlice ?_); refine wpList_sliceH H 44 (vecC [(an, hn), (ap, hn), (ap, hp), (an, hp)]) 4 rfl rfl (by intro W; kernel_rfl) ?_; clear H; intro _ _ H; (simp only [Act.put, List.setIfInBounds_toArray, List.set_cons_succ, List.set_cons_zero])))
    go_ret
    first
    | exact ⟨_, S.s2.sn, _, rfl, HS3.out, U5.out, H.out⟩
    | exact ⟨_, S.s2.sn.sn, _, rfl, HS3.out.next, U5.out.comp ND.out U4.out, H.out⟩
  by_cases c1 : S.s2.nx 4 = 1
  · have L1 := L0.2.1 c1
    clear L0
    clear c0
    have n5 := S.s2.sn.nx_bd (2 * a + 1) (by omega)
    obtain ⟨x, hx⟩ : ∃ x : Int, S.s2.sn.nx (2 * a + 1) = x := ⟨_, rfl⟩
    rw [hx] at n5 L1
    obtain ⟨n5l, n5r⟩ := n5
    have w2 : IntKind.i64.wrap (2 * a) = 2 * a := IntWalk.i64_in _ (by omega)
    have w3 : IntKind.i64.wrap (2 * a + 1) = 2 * a + 1 := IntWalk.i64_in _ (by omega)
    have wx : IntKind.i64.wrap (x - a) = x - a := IntWalk.i64_in _ (by omega)
    obtain ⟨an, Ean⟩ : ∃ z : Rat, Hid (ofQ (-a) 4 = z) := ⟨_, rfl⟩
    obtain ⟨hn, Ehn⟩ : ∃ z : Rat, Hid (ofQ (-h) 4 = z) := ⟨_, rfl⟩
    obtain ⟨ap, Eap⟩ : ∃ z : Rat, Hid (ofQ a 4 = z) := ⟨_, rfl⟩
    obtain ⟨xa, Exa⟩ : ∃ z : Rat, Hid (ofQ (x - a) 4 = z) := ⟨_, rfl⟩
    obtain ⟨hp, Ehp⟩ : ∃ z : Rat, Hid (ofQ h 4 = z) := ⟨_, rfl⟩
    rw [Ean.out, Ehn.out, Eap.out, Exa.out, Ehp.out] at L1
    rw [L1]
    clear L1
    go_enter Tryz.func50, Tryz.ntmps50
    go_wp2_with (first
        | go_skip)
    refine (nextH_any S g 6 H hS U1 (by decide) (by decide)).mono ?_
    rintro _ _ ⟨rfl, H2⟩
    replace H := Lib.hid H2
    clear H2
    go_wp2_with (first
        | go_skip)
    refine (nextH_any S.sn g 6 H HS1 U2 (by decide) (by decide)).mono ?_
    rintro _ _ ⟨rfl, H2⟩
    replace H := Lib.hid H2
    clear H2
    go_wp2_with (first
        | go_skip)
    refine (nextH_any S.s2 g 4 H HS2 U3 (by decide) (by decide)).mono ?_
    rintro _ _ ⟨rfl, H2⟩
    replace H := Lib.hid H2
    clear H2
    go_wp2_with (first
        | go_skip)
    refine (makeAt_any (-a) (-h) an hn _ (by omega) (by omega) H.out.tb Ean Ehn).mono ?_
    rintro _ _ ⟨rfl, hb⟩
    replace H := Lib.hid (H.out.go hb)
    clear hb
    go_wp2_with (first
        | go_skip)
    refine (makeAt_any (a) (-h) ap hn _ (by omega) (by omega) H.out.tb Eap Ehn).mono ?_
    rintro _ _ ⟨rfl, hb⟩
    replace H := Lib.hid (H.out.go hb)
    clear hb
    go_wp2_with (first
        | go_skip)
    obtain ⟨m4, hm4⟩ := upd_of_mem [S.s2.sn.sn.v] U3.out.mem2
    have U4 := Lib.hid hm4
    clear hm4
    refine (nextH_any S.s2.sn g (2 * a + 1) H HS3 U4 (by omega) (by omega)).mono ?_
    rintro _ _ ⟨rfl, H2⟩
    replace H := Lib.hid H2
    clear H2
    rw [hx]
    clear hx
    go_wp2_with (first
        | go_skip)
    refine (makeAt_any ((x - a)) (h) xa hp _ (by omega) (by omega) H.out.tb Exa Ehp).mono ?_
    rintro _ _ ⟨rfl, hb⟩
    replace H := Lib.hid (H.out.go hb)
    clear hb
    go_wp2_with (first
        | ((with_reducible refine isSlice ?_); refine wpList_sliceH H 44 (vecC [(an, hn), (ap, hn), (xa, hp)]) 3 rfl rfl (by intro W; kernel_rfl) ?_; clear H; intro _ _ H; (simp only [Act.put, List.setIfInBounds_toArray, List.set_cons_succ, List.set_cons_zero])))
    go_ret
    first
    | exact ⟨_, S.s2.sn, _, rfl, HS3.out, U5.out, H.out⟩
    | exact ⟨_, S.s2.sn.sn, _, rfl, HS3.out.next, U5.out.comp ND.out U4.out, H.out⟩
  by_cases c2 : S.s2.nx 4 = 2
  · have L1 := L0.2.2.1 c2
    clear L0
    clear c0 c1
    have w4 : IntKind.i64.wrap (-a - 1) = -a - 1 := IntWalk.i64_in _ (by omega)
    have w5 : IntKind.i64.wrap (-h - 1) = -h - 1 := IntWalk.i64_in _ (by omega)
    have w6 : IntKind.i64.wrap (a + 1) = a + 1 := IntWalk.i64_in _ (by omega)
    obtain ⟨am, Eam⟩ : ∃ z : Rat, Hid (ofQ (-a - 1) 4 = z) := ⟨_, rfl⟩
    obtain ⟨hm, Ehm⟩ : ∃ z : Rat, Hid (ofQ (-h - 1) 4 = z) := ⟨_, rfl⟩
    obtain ⟨ap, Eap⟩ : ∃ z : Rat, Hid (ofQ a 4 = z) := ⟨_, rfl⟩
    obtain ⟨aq, Eaq⟩ : ∃ z : Rat, Hid (ofQ (a + 1) 4 = z) := ⟨_, rfl⟩
    obtain ⟨hn, Ehn⟩ : ∃ z : Rat, Hid (ofQ (-h) 4 = z) := ⟨_, rfl⟩
    obtain ⟨hp, Ehp⟩ : ∃ z : Rat, Hid (ofQ h 4 = z) := ⟨_, rfl⟩
    rw [Eam.out, Ehm.out, Eap.out, Eaq.out, Ehn.out, Ehp.out] at L1
    rw [L1]
    clear L1
    go_enter Tryz.func50, Tryz.ntmps50
    go_wp2_with (first
        | go_skip)
    refine (nextH_any S g 6 H hS U1 (by decide) (by decide)).mono ?_
    rintro _ _ ⟨rfl, H2⟩
    replace H := Lib.hid H2
    clear H2
    go_wp2_with (first
        | go_skip)
    refine (nextH_any S.sn g 6 H HS1 U2 (by decide) (by decide)).mono ?_
    rintro _ _ ⟨rfl, H2⟩
    replace H := Lib.hid H2
    clear H2
    go_wp2_with (first
        | go_skip)
    refine (nextH_any S.s2 g 4 H HS2 U3 (by decide) (by decide)).mono ?_
    rintro _ _ ⟨rfl, H2⟩
    replace H := Lib.hid H2
    clear H2
    go_wp2_with (first
        | go_skip)
    refine (makeAt_any ((-a - 1)) ((-h - 1)) am hm _ (by omega) (by omega) H.out.tb Eam Ehm).mono ?_
    rintro _ _ ⟨rfl, hb⟩
    replace H := Lib.hid (H.out.go hb)
    clear hb
    go_wp2_with (first
        | go_skip)
    refine (makeAt_any (a) ((-h - 1)) ap hm _ (by omega) (by omega) H.out.tb Eap Ehm).mono ?_
    rintro _ _ ⟨rfl, hb⟩
    replace H := Lib.hid (H.out.go hb)
    clear hb
    go_wp2_with (first
        | go_skip)
    refine (makeAt_any ((a + 1)) (-h) aq hn _ (by omega) (by omega) H.out.tb Eaq Ehn).mono ?_
    rintro _ _ ⟨rfl, hb⟩
    replace H := Lib.hid (H.out.go hb)
    clear hb
    go_wp2_with (first
        | go_skip)
    refine (makeAt_any ((a + 1)) (h) aq hp _ (by omega) (by omega) H.out.tb Eaq Ehp).mono ?_
    rintro _ _ ⟨rfl, hb⟩
    replace H := Lib.hid (H.out.go hb)
    clear hb
    go_wp2_with (first
        | go_skip)
    refine (makeAt_any ((-a - 1)) (h) am hp _ (by omega) (by omega) H.out.tb Eam Ehp).mono ?_
    rintro _ _ ⟨rfl, hb⟩
    replace H := Lib.hid (H.out.go hb)
    clear hb
    go_wp2_with (first
        | ((with_reducible refine isSlice ?_); refine wpList_sliceH H 44 (vecC [(am, hm), (ap, hm), (aq, hn), (aq, hp), (am, hp)]) 5 rfl rfl (by intro W; kernel_rfl) ?_; clear H; intro _ _ H; (simp only [Act.put, List.setIfInBounds_toArray, List.set_cons_succ, List.set_cons_zero])))
    go_ret
    first
    | exact ⟨_, S.s2.sn, _, rfl, HS3.out, U5.out, H.out⟩
    | exact ⟨_, S.s2.sn.sn, _, rfl, HS3.out.next, U5.out.comp ND.out U4.out, H.out⟩
  have c3 : S.s2.nx 4 = 3 := by omega
  have L1 := L0.2.2.2 c3
  clear L0
  clear c0 c1 c2
  obtain ⟨an, Ean⟩ : ∃ z : Rat, Hid (ofQ (-a) 4 = z) := ⟨_, rfl⟩
  obtain ⟨zz, Ezz⟩ : ∃ z : Rat, Hid (ofQ 0 4 = z) := ⟨_, rfl⟩
  obtain ⟨hn, Ehn⟩ : ∃ z : Rat, Hid (ofQ (-h) 4 = z) := ⟨_, rfl⟩
  obtain ⟨ap, Eap⟩ : ∃ z : Rat, Hid (ofQ a 4 = z) := ⟨_, rfl⟩
  obtain ⟨hp, Ehp⟩ : ∃ z : Rat, Hid (ofQ h 4 = z) := ⟨_, rfl⟩
  rw [Ean.out, Ezz.out, Ehn.out, Eap.out, Ehp.out] at L1
  rw [L1]
  clear L1
  go_enter Tryz.func50, Tryz.ntmps50
  go_wp2_with (first
      | go_skip)
  refine (nextH_any S g 6 H hS U1 (by decide) (by decide)).mono ?_
  rintro _ _ ⟨rfl, H2⟩
  replace H := Lib.hid H2
  clear H2
  go_wp2_with (first
      | go_skip)
  refine (nextH_any S.sn g 6 H HS1 U2 (by decide) (by decide)).mono ?_
  rintro _ _ ⟨rfl, H2⟩
  replace H := Lib.hid H2
  clear H2
  go_wp2_with (first
      | go_skip)
  refine (nextH_any S.s2 g 4 H HS2 U3 (by decide) (by decide)).mono ?_
  rintro _ _ ⟨rfl, H2⟩
  replace H := Lib.hid H2
  clear H2
  go_wp2_with (first
      | go_skip)
  refine (makeAt_any (-a) (0) an zz _ (by omega) (by omega) H.out.tb Ean Ezz).mono ?_
  rintro _ _ ⟨rfl, hb⟩
  replace H := Lib.hid (H.out.go hb)
  clear hb
  go_wp2_with (first
      | go_skip)
  refine (makeAt_any (0) (-h) zz hn _ (by omega) (by omega) H.out.tb Ezz Ehn).mono ?_
  rintro _ _ ⟨rfl, hb⟩
  replace H := Lib.hid (H.out.go hb)
  clear hb
  go_wp2_with (first
      | go_skip)
  refine (makeAt_any (a) (0) ap zz _ (by omega) (by omega) H.out.tb Eap Ezz).mono ?_
  rintro _ _ ⟨rfl, hb⟩
  replace H := Lib.hid (H.out.go hb)
  clear hb
  go_wp2_with (first
      | go_skip)
  refine (makeAt_any (0) (h) zz hp _ (by omega) (by omega) H.out.tb Ezz Ehp).mono ?_
  rintro _ _ ⟨rfl, hb⟩
  replace H := Lib.hid (H.out.go hb)
  clear hb
  go_wp2_with (first
      | ((with_reducible refine isSlice ?_); refine wpList_sliceH H 44 (vecC [(an, zz), (zz, hn), (ap, zz), (zz, hp)]) 4 rfl rfl (by intro W; kernel_rfl) ?_; clear H; intro _ _ H; (simp only [Act.put, List.setIfInBounds_toArray, List.set_cons_succ, List.set_cons_zero])))
  go_ret
  first
    | exact ⟨_, S.s2.sn, _, rfl, HS3.out, U5.out, H.out⟩
    | exact ⟨_, S.s2.sn.sn, _, rfl, HS3.out.next, U5.out.comp ND.out U4.out, H.out⟩
end Go.Proofs.YtmfejdikfpckdaaGreatDoor

namespace Go.Proofs.YtmfejdikfpckdaaGreatDoor
open Go.RowKit
set_option linter.unusedVariables false
set_option maxRecDepth 100000

def rectI (x y u v : Int) : List (Rat × Rat) := FitT.rectV (ofQ x 4) (ofQ y 4) (ofQ u 4) (ofQ v 4)
set_option maxHeartbeats 4000000 in
theorem rect_any (x y u v : Int) (w : World) (hx : -1000 ≤ x ∧ x ≤ 1000) (hy : -1000 ≤ y ∧ y ≤ 1000) (hu : -1000 ≤ u ∧ u ≤ 1000) (hv : -1000 ≤ v ∧ v ≤ 1000) (hT : Tb w) :
    Calls Tryz.prog 49 #[.int .i64 x, .int .i64 y, .int .i64 u, .int .i64 v] w fun e w' => ∃ b, e = .returned (.slice (some ⟨b, 0, none⟩) 4 4) ∧ Hp w w' [(b, 44, vecC (rectI x y u v))] := by
  have H := Lib.hid (Hp.start hT)
  clear hT
  obtain ⟨p, Ep⟩ : ∃ z : Rat, Hid (ofQ x 4 = z) := ⟨_, rfl⟩
  obtain ⟨q, Eq⟩ : ∃ z : Rat, Hid (ofQ y 4 = z) := ⟨_, rfl⟩
  obtain ⟨r, Er⟩ : ∃ z : Rat, Hid (ofQ u 4 = z) := ⟨_, rfl⟩
  obtain ⟨s, Es⟩ : ∃ z : Rat, Hid (ofQ v 4 = z) := ⟨_, rfl⟩
  have HR : Hid (rectI x y u v = [(p, q), (r, q), (r, s), (p, s)]) := by unfold Hid rectI FitT.rectV; rw [Ep.out, Hid.out Eq, Er.out, Es.out]
  go_enter Tryz.func49, Tryz.ntmps49
  go_wp2_with (first
      | go_skip
      | ((with_reducible refine isLoad ?_); refine ldA H ?_)
      | ((with_reducible refine isLoad ?_); refine ld1A H ?_)
      | ((with_reducible refine isStore ?_); refine stA H ?_; clear H; intro _ H)
      | ((with_reducible refine isStore ?_); refine st1A H ?_; clear H; intro _ H)
      | ((with_reducible refine isBox ?_); refine bxA H ?_; clear H; intro _ _ H)
      | ((with_reducible refine isAlloc ?_); refine alA H ?_; clear H; intro _ _ H))
  refine (makeAt_any x y p q _ hx hy H.out.tb Ep Eq).mono ?_
  rintro _ _ ⟨rfl, hb⟩
  replace H := Lib.hid (H.out.go hb)
  clear hb
  go_wp2_with (first
      | go_skip
      | ((with_reducible refine isLoad ?_); refine ldA H ?_)
      | ((with_reducible refine isLoad ?_); refine ld1A H ?_)
      | ((with_reducible refine isStore ?_); refine stA H ?_; clear H; intro _ H)
      | ((with_reducible refine isStore ?_); refine st1A H ?_; clear H; intro _ H)
      | ((with_reducible refine isBox ?_); refine bxA H ?_; clear H; intro _ _ H)
      | ((with_reducible refine isAlloc ?_); refine alA H ?_; clear H; intro _ _ H))
  refine (makeAt_any u y r q _ hu hy H.out.tb Er Eq).mono ?_
  rintro _ _ ⟨rfl, hb⟩
  replace H := Lib.hid (H.out.go hb)
  clear hb
  go_wp2_with (first
      | go_skip
      | ((with_reducible refine isLoad ?_); refine ldA H ?_)
      | ((with_reducible refine isLoad ?_); refine ld1A H ?_)
      | ((with_reducible refine isStore ?_); refine stA H ?_; clear H; intro _ H)
      | ((with_reducible refine isStore ?_); refine st1A H ?_; clear H; intro _ H)
      | ((with_reducible refine isBox ?_); refine bxA H ?_; clear H; intro _ _ H)
      | ((with_reducible refine isAlloc ?_); refine alA H ?_; clear H; intro _ _ H))
  refine (makeAt_any u v r s _ hu hv H.out.tb Er Es).mono ?_
  rintro _ _ ⟨rfl, hb⟩
  replace H := Lib.hid (H.out.go hb)
  clear hb
  go_wp2_with (first
      | go_skip
      | ((with_reducible refine isLoad ?_); refine ldA H ?_)
      | ((with_reducible refine isLoad ?_); refine ld1A H ?_)
      | ((with_reducible refine isStore ?_); refine stA H ?_; clear H; intro _ H)
      | ((with_reducible refine isStore ?_); refine st1A H ?_; clear H; intro _ H)
      | ((with_reducible refine isBox ?_); refine bxA H ?_; clear H; intro _ _ H)
      | ((with_reducible refine isAlloc ?_); refine alA H ?_; clear H; intro _ _ H))
  refine (makeAt_any x v p s _ hx hv H.out.tb Ep Es).mono ?_
  rintro _ _ ⟨rfl, hb⟩
  replace H := Lib.hid (H.out.go hb)
  clear hb
  go_wp2_with (first
      | go_skip
      | ((with_reducible refine isSlc ?_); refine bsA 44 ([.bool (sgO (some p)), .string (nuO (some p)), .string (deO (some p)), .bool (sgO (some q)), .string (nuO (some q)), .string (deO (some q)), .bool (sgO (some r)), .string (nuO (some r)), .string (deO (some r)), .bool (sgO (some q)), .string (nuO (some q)), .string (deO (some q)), .bool (sgO (some r)), .string (nuO (some r)), .string (deO (some r)), .bool (sgO (some s)), .string (nuO (some s)), .string (deO (some s)), .bool (sgO (some p)), .string (nuO (some p)), .string (deO (some p)), .bool (sgO (some s)), .string (nuO (some s)), .string (deO (some s))]) 4 H (fun b1 W1 H1 => ?_); clear H; have H := H1; clear H1))
  go_ret
  exact ⟨b1, rfl, by rw [HR.out]; exact H.out⟩
end Go.Proofs.YtmfejdikfpckdaaGreatDoor

namespace Go.Proofs.YtmfejdikfpckdaaGreatDoor
open Go.RowKit
set_option linter.unusedVariables false
set_option maxRecDepth 100000

theorem rArm : RowT Tryz.prog 97 12 := ⟨⟨_, Tryz.underlying97, rfl⟩, by kernel_rfl⟩
theorem zArm : (Tryz.prog.info? 97).bind (·.zero) = some (.agg #[.string ⟨#[]⟩, .bool false, .string ⟨#[]⟩, .string ⟨#[]⟩, .bool false, .string ⟨#[]⟩, .string ⟨#[]⟩, .bool false, .bool false, .string ⟨#[]⟩, .string ⟨#[]⟩, .slice none 0 0]) := by kernel_rfl
theorem rLnk : RowT Tryz.prog 139 16 := ⟨⟨_, Tryz.underlying139, rfl⟩, by kernel_rfl⟩
theorem zLnk : (Tryz.prog.info? 139).bind (·.zero) = some (.agg #[.bool false, .string ⟨#[]⟩, .string ⟨#[]⟩, .bool false, .string ⟨#[]⟩, .string ⟨#[]⟩, .bool false, .string ⟨#[]⟩, .string ⟨#[]⟩, .bool false, .string ⟨#[]⟩, .string ⟨#[]⟩, .bool false, .string ⟨#[]⟩, .string ⟨#[]⟩, .slice none 0 0]) := by kernel_rfl
theorem iLnk : InfoT Tryz.prog 139 16 224 := InfoT.of zLnk (by kernel_rfl) rfl
theorem uLnks : Tryz.prog.underlying 95 = some (.slice 139) := Tryz.underlying95
theorem kLnks : ∃ d, Tryz.prog.underlying 95 = some d ∧ d.isRow = false := ⟨_, Tryz.underlying95, rfl⟩
theorem sLnks : (Tryz.prog.info? 95).map (·.size) = some 1 := by kernel_rfl
theorem sVecs : (Tryz.prog.info? 40).map (·.size) = some 1 := by kernel_rfl
def nmA : List Value := [.string ⟨#[111, 110, 101]⟩, .string ⟨#[116, 119, 111]⟩, .string ⟨#[116, 104, 114, 101, 101]⟩, .string ⟨#[102, 111, 117, 114]⟩]
def baA : List Value := [.int .i64 0, .int .i64 1, .int .i64 (-1), .int .i64 1]
theorem nmA_at {n : Nat} (h : n ≤ 1) : ∃ b, nmA[n]? = some (.string b) := by
  rcases n with _ | _ | n
  · exact ⟨_, rfl⟩
  · exact ⟨_, rfl⟩
  · omega
theorem baA_at {r : Int} (h0 : 0 ≤ r) (h : r < 4) : ∃ (k : Nat) (z : Int), r = k ∧ k < 4 ∧ baA[k]? = some (.int .i64 z) ∧ -1 ≤ z ∧ z ≤ 1 := by
  have : r = 0 ∨ r = 1 ∨ r = 2 ∨ r = 3 := by omega
  rcases this with rfl | rfl | rfl | rfl
  · exact ⟨0, 0, rfl, by omega, rfl, by omega, by omega⟩
  · exact ⟨1, 1, rfl, by omega, rfl, by omega, by omega⟩
  · exact ⟨2, -1, rfl, by omega, rfl, by omega, by omega⟩
  · exact ⟨3, 1, rfl, by omega, rfl, by omega, by omega⟩
theorem isSlcT {P : Program} {ops : Array Oper} {rest : List Oper} {a : Act} {w : World} {Q : Exit → Act → World → Prop} {d : Option Tmp} {ty : TypeId} {po : String} {af : Array Edge} {g : Option (Nat × Bool)} {t : TypeId} {n : Nat} {ps : Array (Nat × Operand)} (h : wpList P ops Q (⟨d, .buildSlice t n ps, ty, po, af, g⟩ :: rest) a w) : wpList P ops Q (⟨d, .buildSlice t n ps, ty, po, af, g⟩ :: rest) a w := h
theorem Upd.app (X : Ents) {l l' : Ents} {b : Nat} {T : TypeId} {cs ds : List Value} (h : Upd l b T cs ds l') : Upd (X ++ l) b T cs ds (X ++ l') := by
  induction X with
  | nil => exact h
  | cons x X ih => exact .tail ih
set_option maxHeartbeats 16000000 in
theorem arm_any {w0 w : World} {m : Ents} (S : Sd) (g : Nat) (n : Nat) (hn : n ≤ 1) (H : Hid (Hp w0 w m)) (hS : Hid (S.ok w0)) (hm : (g, 93, [S.v]) ∈ m) :
    Calls Tryz.prog 48 #[.pointer (some ⟨g, 0, none⟩), .int .i64 n] w fun e w' => ∃ (nm : ByteArray) (x y t : Option Rat) (A : Option Addr) (k c : Nat) (S' : Sd) (m' : Ents), e = .returned (.agg #[.string nm, .bool (sgO x), .string (nuO x), .string (deO x), .bool (sgO y), .string (nuO y), .string (deO y), .bool false, .bool (sgO t), .string (nuO t), .string (deO t), .slice A k c]) ∧ S'.ok w0 ∧ Upd m g 93 [S.v] [S'.v] m' ∧ Hp w0 w' m' := by
  obtain ⟨m1, um1⟩ := upd_of_mem [S.sn.v] hm
  obtain ⟨m2, um2⟩ := upd_of_mem [S.sn.sn.v] um1.mem2
  obtain ⟨m3, um3⟩ := upd_of_mem [S.sn.sn.sn.v] um2.mem2
  have U3 := Lib.hid ((um1.comp H.out.nd um2).comp H.out.nd um3)
  have ND := Lib.hid H.out.nd
  have HS1 := Lib.hid hS.out.next
  have HS2 := Lib.hid hS.out.next.next
  have HS3 := Lib.hid hS.out.next.next.next
  clear hm
  obtain ⟨nb, hnb⟩ := nmA_at hn
  have HNB : Hid ([Value.string ⟨#[111, 110, 101]⟩, .string ⟨#[116, 119, 111]⟩, .string ⟨#[116, 104, 114, 101, 101]⟩, .string ⟨#[102, 111, 117, 114]⟩][n]? = some (.string nb)) := hnb
  clear hnb
  obtain ⟨n40, hn40⟩ : ∃ q : Int, 40 * (n : Int) = q := ⟨_, rfl⟩
  have w40 : IntKind.i64.wrap (40 * (n : Int)) = n40 := by rw [hn40]; exact IntWalk.i64_in _ (by omega)
  have b40 : -1000 ≤ n40 ∧ n40 ≤ 1000 := by omega
  have ln : n < 4 := by omega
  clear hn40
  obtain ⟨r1, hr1⟩ : ∃ r, S.nx 4 = r := ⟨_, rfl⟩
  have br1 : 0 ≤ r1 ∧ r1 < 4 := by rw [← hr1]; exact S.nx_bd 4 (by decide)
  obtain ⟨br1l, br1r⟩ := br1
  obtain ⟨r2, hr2⟩ : ∃ r, S.sn.nx 3 = r := ⟨_, rfl⟩
  have br2 : 0 ≤ r2 ∧ r2 < 3 := by rw [← hr2]; exact S.sn.nx_bd 3 (by decide)
  obtain ⟨br2l, br2r⟩ := br2
  obtain ⟨k1, z1, e1, lk1, hz1, z1l, z1r⟩ := baA_at br1l br1r
  have HZ1 : Hid ([Value.int .i64 0, .int .i64 1, .int .i64 (-1), .int .i64 1][k1]? = some (.int .i64 z1)) := hz1
  rw [e1] at hr1
  have lkI : (k1 : Int) < 4 := by omega
  obtain ⟨d2, hd2⟩ : ∃ d : Nat, 1 + r2 = d := ⟨(1 + r2).toNat, by omega⟩
  obtain ⟨x0, Ex0⟩ : ∃ z : Rat, Hid (ofQ n40 4 = z) := ⟨_, rfl⟩
  obtain ⟨y0, Ey0⟩ : ∃ z : Rat, Hid (ofQ 0 4 = z) := ⟨_, rfl⟩
  obtain ⟨t0, Et0⟩ : ∃ z : Rat, Hid (ofQ z1 d2 = z) := ⟨_, rfl⟩
  have w2 : IntKind.i64.wrap (1 + r2) = (d2 : Int) := by rw [hd2]; exact IntWalk.i64_in _ (by omega)
  have HR1 := Lib.hid hr1
  have HR2 := Lib.hid hr2
  have HD2 := Lib.hid hd2
  have d2l : 0 < d2 := by omega
  have d2r : d2 ≤ 1000 := by omega
  clear hr1 hr2 hd2 hz1 e1
  go_enter Tryz.func48, Tryz.ntmps48
  go_wp2_with (first
      | go_skip
      | ((with_reducible refine isSlc ?_); refine bsA 9 nmA 4 H (fun b8 W8 H1 => ?_); clear H; have H := H1; clear H1)
      | ((with_reducible refine isLoad ?_); refine ld1A (hT := kStr) (hx := HNB.out) H ?_)
      | ((with_reducible refine isAlloc ?_); refine alA (hz := zArm) H ?_; clear H; intro _ _ H)
      | ((with_reducible refine isStore ?_); refine stA (hT := rArm) H ?_; clear H; intro _ H)
      | ((with_reducible refine isLoad ?_); refine ldA H ?_)
      | ((with_reducible refine isLoad ?_); refine ld1A H ?_)
      | ((with_reducible refine isStore ?_); refine stA H ?_; clear H; intro _ H)
      | ((with_reducible refine isStore ?_); refine st1A H ?_; clear H; intro _ H)
      | ((with_reducible refine isBox ?_); refine bxA H ?_; clear H; intro _ _ H)
      | ((with_reducible refine isAlloc ?_); refine alA H ?_; clear H; intro _ _ H))
  rename_i g4 W4 g5 W5 W6 K7 hK7
  refine wp_region_YO 15 [0, 1, 2, 4, 5, 8, 9, 10, 3, 6, 7, 11, 12, 13, 14] [.c (.int .i64 n), .c (.int .i64 n40), .y, .c (.pointer (some ⟨g, 0, none⟩)), .y, .c (.pointer (some ⟨g, 0, none⟩)), .y, .c (.int .i64 d2), .a, .r, .r, .y, .c (.agg #[.bool false, .bool (sgO (some t0)), .string (nuO (some t0)), .string (deO (some t0))]), .c (.agg #[.bool (sgO (some x0)), .string (nuO (some x0)), .string (deO (some x0)), .bool (sgO (some y0)), .string (nuO (some y0)), .string (deO (some y0)), .bool false, .bool (sgO (some t0)), .string (nuO (some t0)), .string (deO (some t0))]), .c (.pointer (some ⟨g5, 1, none⟩))] ([(g5, 97, [.string nb, .bool false, .string ⟨#[]⟩, .string ⟨#[]⟩, .bool false, .string ⟨#[]⟩, .string ⟨#[]⟩, .bool false, .bool false, .string ⟨#[]⟩, .string ⟨#[]⟩, .slice none 0 0])]) H (by (repeat (first | exact List.Sublist.refl _ | exact List.nil_sublist _ | exact List.sublist_append_right _ _ | refine List.Sublist.cons_cons _ ?_ | refine List.Sublist.cons _ ?_))) (by kernel_rfl) (by kernel_rfl) (by kernel_rfl) ?_
  simp only [permL, List.map_cons, List.map_nil, List.getElem?_cons_succ, List.getElem?_cons_zero, Option.getD_some, List.drop_succ_cons, List.drop_zero]
  refine wpY_c (by rfl) (by (first | exact wanted_none rfl | exact wanted_some rfl rfl)) (by intro W _; first | (go_simp; rfl) | (go_simp; done) | (trace_state; fail)) ?_
  (simp only [Act.put, List.setIfInBounds_toArray, List.set_cons_succ, List.set_cons_zero])
  refine wpY_c (by rfl) (by (first | exact wanted_none rfl | exact wanted_some rfl rfl)) (by intro W _; first | (go_simp; rfl) | (go_simp; done) | (trace_state; fail)) ?_
  (simp only [Act.put, List.setIfInBounds_toArray, List.set_cons_succ, List.set_cons_zero])
  refine wpY_y (by rfl) (by (first | exact wanted_none rfl | exact wanted_some rfl rfl)) (fun G F W HF hG => ?_)
  go_simp
  unfold upY
  refine Calls.mono (makeAt_any n40 0 x0 y0 _ (by omega) (by omega) HF.out.tb Ex0 Ey0) ?_
  rintro _ W2 ⟨rfl, hb⟩
  refine ⟨_, rfl, hG _ W2 _ (HF.out.go hb) (by (repeat (first | exact List.Sublist.refl _ | exact List.nil_sublist _ | exact List.sublist_append_right _ _ | refine List.Sublist.cons_cons _ ?_ | refine List.Sublist.cons _ ?_))) (fun x _ => Iff.rfl) ?_⟩
  clear hG hb HF
  clear G F W W2
  (simp only [Act.put, List.setIfInBounds_toArray, List.set_cons_succ, List.set_cons_zero])
  refine wpY_c (by rfl) (by (first | exact wanted_none rfl | exact wanted_some rfl rfl)) (by intro W _; first | (go_simp; rfl) | (go_simp; done) | (trace_state; fail)) ?_
  (simp only [Act.put, List.setIfInBounds_toArray, List.set_cons_succ, List.set_cons_zero])
  refine wpY_y (by rfl) (by (first | exact wanted_none rfl | exact wanted_some rfl rfl)) (fun G F W HF hG => ?_)
  go_simp
  unfold upY
  have hX := nextH_any (m' := ([(g5, 97, [.string nb, .bool false, .string ⟨#[]⟩, .string ⟨#[]⟩, .bool false, .string ⟨#[]⟩, .string ⟨#[]⟩, .bool false, .bool false, .string ⟨#[]⟩, .string ⟨#[]⟩, .slice none 0 0]), (b8, 9, nmA), (g4, 97, [.string ⟨#[]⟩, .bool false, .string ⟨#[]⟩, .string ⟨#[]⟩, .bool false, .string ⟨#[]⟩, .string ⟨#[]⟩, .bool false, .bool false, .string ⟨#[]⟩, .string ⟨#[]⟩, .slice none 0 0])] ++ (m1)) ++ F) S g 4 HF hS (Lib.hid (by (repeat (first | exact um1.more F | exact um1 | apply Upd.head | apply Upd.tail)))) (by decide) (by decide)
  rw [HR1.out] at hX
  refine Calls.mono hX ?_
  clear hX
  rintro _ W2 ⟨rfl, h2⟩
  refine ⟨_, rfl, hG _ _ ([(g5, 97, [.string nb, .bool false, .string ⟨#[]⟩, .string ⟨#[]⟩, .bool false, .string ⟨#[]⟩, .string ⟨#[]⟩, .bool false, .bool false, .string ⟨#[]⟩, .string ⟨#[]⟩, .slice none 0 0]), (b8, 9, nmA), (g4, 97, [.string ⟨#[]⟩, .bool false, .string ⟨#[]⟩, .string ⟨#[]⟩, .bool false, .string ⟨#[]⟩, .string ⟨#[]⟩, .bool false, .bool false, .string ⟨#[]⟩, .string ⟨#[]⟩, .slice none 0 0])] ++ (m1)) h2 (by (repeat (first | exact List.Sublist.refl _ | exact List.nil_sublist _ | exact List.sublist_append_right _ _ | refine List.Sublist.cons_cons _ ?_ | refine List.Sublist.cons _ ?_))) (Upd.fixed (b := g) (T := 93) (by (repeat (first | exact um1.more F | exact um1 | apply Upd.head | apply Upd.tail))) (by rfl)) ?_⟩
  clear HF hG h2
  clear G F W W2
  (simp only [Act.put, List.setIfInBounds_toArray, List.set_cons_succ, List.set_cons_zero])
  refine wpY_c (by rfl) (by (first | exact wanted_none rfl | exact wanted_some rfl rfl)) (by intro W _; first | (go_simp; rfl) | (go_simp; done) | (trace_state; fail)) ?_
  (simp only [Act.put, List.setIfInBounds_toArray, List.set_cons_succ, List.set_cons_zero])
  refine wpY_y (by rfl) (by (first | exact wanted_none rfl | exact wanted_some rfl rfl)) (fun G F W HF hG => ?_)
  go_simp
  unfold upY
  have hX := nextH_any (m' := ([(g5, 97, [.string nb, .bool false, .string ⟨#[]⟩, .string ⟨#[]⟩, .bool false, .string ⟨#[]⟩, .string ⟨#[]⟩, .bool false, .bool false, .string ⟨#[]⟩, .string ⟨#[]⟩, .slice none 0 0]), (b8, 9, nmA), (g4, 97, [.string ⟨#[]⟩, .bool false, .string ⟨#[]⟩, .string ⟨#[]⟩, .bool false, .string ⟨#[]⟩, .string ⟨#[]⟩, .bool false, .bool false, .string ⟨#[]⟩, .string ⟨#[]⟩, .slice none 0 0])] ++ (m2)) ++ F) S.sn g 3 HF HS1 (Lib.hid (by (repeat (first | exact um2.more F | exact um2 | apply Upd.head | apply Upd.tail)))) (by decide) (by decide)
  rw [HR2.out] at hX
  refine Calls.mono hX ?_
  clear hX
  rintro _ W2 ⟨rfl, h2⟩
  refine ⟨_, rfl, hG _ _ ([(g5, 97, [.string nb, .bool false, .string ⟨#[]⟩, .string ⟨#[]⟩, .bool false, .string ⟨#[]⟩, .string ⟨#[]⟩, .bool false, .bool false, .string ⟨#[]⟩, .string ⟨#[]⟩, .slice none 0 0]), (b8, 9, nmA), (g4, 97, [.string ⟨#[]⟩, .bool false, .string ⟨#[]⟩, .string ⟨#[]⟩, .bool false, .string ⟨#[]⟩, .string ⟨#[]⟩, .bool false, .bool false, .string ⟨#[]⟩, .string ⟨#[]⟩, .slice none 0 0])] ++ (m2)) h2 (by (repeat (first | exact List.Sublist.refl _ | exact List.nil_sublist _ | exact List.sublist_append_right _ _ | refine List.Sublist.cons_cons _ ?_ | refine List.Sublist.cons _ ?_))) (Upd.fixed (b := g) (T := 93) (by (repeat (first | exact um2.more F | exact um2 | apply Upd.head | apply Upd.tail))) (by rfl)) ?_⟩
  clear HF hG h2
  clear G F W W2
  (simp only [Act.put, List.setIfInBounds_toArray, List.set_cons_succ, List.set_cons_zero])
  refine wpY_c (by rfl) (by (first | exact wanted_none rfl | exact wanted_some rfl rfl)) (by intro W _; first | (go_simp; rfl) | (go_simp; done) | (trace_state; fail)) ?_
  (simp only [Act.put, List.setIfInBounds_toArray, List.set_cons_succ, List.set_cons_zero])
  refine wpY_V 3 (baA) 4 (by rfl) (by rfl) (by intro W; kernel_rfl) ?_
  intro b16
  (simp only [Act.put, List.setIfInBounds_toArray, List.set_cons_succ, List.set_cons_zero])
  refine wpY_rp (b := b16) (cs := baA) (by rfl) (by (first | exact wanted_none rfl | exact wanted_some rfl rfl)) (by (repeat (first | exact List.Mem.head _ | refine List.Mem.tail _ ?_ | assumption))) (by rfl) (by intro W; first | (go_simp; rfl) | go_simp) ?_
  (simp only [Act.put, List.setIfInBounds_toArray, List.set_cons_succ, List.set_cons_zero])
  refine wpY_r (j := k1) (cs := baA) (by rfl) (by rfl) (by (first | exact wanted_none rfl | exact wanted_some rfl rfl)) kInt (by rfl) (by omega) (by (repeat (first | exact List.Mem.head _ | refine List.Mem.tail _ ?_ | assumption))) (by rfl) HZ1.out ?_
  (simp only [Act.put, List.setIfInBounds_toArray, List.set_cons_succ, List.set_cons_zero])
  refine wpY_y (by rfl) (by (first | exact wanted_none rfl | exact wanted_some rfl rfl)) (fun G F W HF hG => ?_)
  go_simp
  unfold upY
  refine Calls.mono (ofQ_any z1 d2 t0 _ (by omega) (by omega) d2l (by omega) Et0) ?_
  rintro _ W2 ⟨rfl, hb⟩
  refine ⟨_, rfl, hG _ W2 _ (HF.out.go hb) (by (repeat (first | exact List.Sublist.refl _ | exact List.nil_sublist _ | exact List.sublist_append_right _ _ | refine List.Sublist.cons_cons _ ?_ | refine List.Sublist.cons _ ?_))) (fun x _ => Iff.rfl) ?_⟩
  clear hG hb HF
  clear G F W W2
  (simp only [Act.put, List.setIfInBounds_toArray, List.set_cons_succ, List.set_cons_zero])
  refine wpY_c (by rfl) (by (first | exact wanted_none rfl | exact wanted_some rfl rfl)) (by intro W _; first | (go_simp; rfl) | (go_simp; done) | (trace_state; fail)) ?_
  (simp only [Act.put, List.setIfInBounds_toArray, List.set_cons_succ, List.set_cons_zero])
  refine wpY_c (by rfl) (by (first | exact wanted_none rfl | exact wanted_some rfl rfl)) (by intro W _; first | (go_simp; rfl) | (go_simp; done) | (trace_state; fail)) ?_
  (simp only [Act.put, List.setIfInBounds_toArray, List.set_cons_succ, List.set_cons_zero])
  refine wpY_c (by rfl) (by (first | exact wanted_none rfl | exact wanted_some rfl rfl)) (by intro W _; first | (go_simp; rfl) | (go_simp; done) | (trace_state; fail)) ?_
  (simp only [Act.put, List.setIfInBounds_toArray, List.set_cons_succ, List.set_cons_zero])
  refine wpY_nil ?_
  clear H
  intro _ H
  go_wp2_with (first
      | go_skip
      | ((with_reducible refine isSlc ?_); refine bsA 9 nmA 4 H (fun b8 W8 H1 => ?_); clear H; have H := H1; clear H1)
      | ((with_reducible refine isLoad ?_); refine ld1A (hT := kStr) (hx := HNB.out) H ?_)
      | ((with_reducible refine isAlloc ?_); refine alA (hz := zArm) H ?_; clear H; intro _ _ H)
      | ((with_reducible refine isStore ?_); refine stA (hT := rArm) H ?_; clear H; intro _ H)
      | ((with_reducible refine isLoad ?_); refine ldA H ?_)
      | ((with_reducible refine isLoad ?_); refine ld1A H ?_)
      | ((with_reducible refine isStore ?_); refine stA H ?_; clear H; intro _ H)
      | ((with_reducible refine isStore ?_); refine st1A H ?_; clear H; intro _ H)
      | ((with_reducible refine isBox ?_); refine bxA H ?_; clear H; intro _ _ H)
      | ((with_reducible refine isAlloc ?_); refine alA H ?_; clear H; intro _ _ H))
  replace H := Lib.hid (H.out.sub (l2 := (g5, 97, [.string nb, .bool (sgO (some x0)), .string (nuO (some x0)), .string (deO (some x0)), .bool (sgO (some y0)), .string (nuO (some y0)), .string (deO (some y0)), .bool false, .bool (sgO (some t0)), .string (nuO (some t0)), .string (deO (some t0)), .slice none 0 0]) :: (g4, 97, [.string ⟨#[]⟩, .bool false, .string ⟨#[]⟩, .string ⟨#[]⟩, .bool false, .string ⟨#[]⟩, .string ⟨#[]⟩, .bool false, .bool false, .string ⟨#[]⟩, .string ⟨#[]⟩, .slice none 0 0]) :: m2) (by (repeat (first | exact List.Sublist.refl _ | exact List.nil_sublist _ | exact List.sublist_append_right _ _ | refine List.Sublist.cons_cons _ ?_ | refine List.Sublist.cons _ ?_))))
  obtain ⟨cn, hcn⟩ : ∃ cn : Nat, 1 + S.sn.sn.nx 3 = cn := ⟨(1 + S.sn.sn.nx 3).toNat, by have := S.sn.sn.nx_bd 3 (by decide); omega⟩
  have bcn : 1 ≤ cn ∧ cn ≤ 3 := by have := S.sn.sn.nx_bd 3 (by decide); omega
  have wcn : IntKind.i64.wrap (1 + S.sn.sn.nx 3) = (cn : Int) := by rw [hcn]; exact IntWalk.i64_in _ (by omega)
  have HCN := Lib.hid hcn
  clear hcn
  refine (nextH_any (m' := (g5, 97, [.string nb, .bool (sgO (some x0)), .string (nuO (some x0)), .string (deO (some x0)), .bool (sgO (some y0)), .string (nuO (some y0)), .string (deO (some y0)), .bool false, .bool (sgO (some t0)), .string (nuO (some t0)), .string (deO (some t0)), .slice none 0 0]) :: (g4, 97, [.string ⟨#[]⟩, .bool false, .string ⟨#[]⟩, .string ⟨#[]⟩, .bool false, .string ⟨#[]⟩, .string ⟨#[]⟩, .bool false, .bool false, .string ⟨#[]⟩, .string ⟨#[]⟩, .slice none 0 0]) :: m3) S.sn.sn g 3 H HS2 (Lib.hid (.tail (.tail um3))) (by decide) (by decide)).mono ?_
  rintro _ _ ⟨rfl, H2⟩
  clear H
  have H := Lib.hid H2
  clear H2
  go_wp2_with (first
      | go_skip
      | ((with_reducible refine isLoad ?_); refine ldA H ?_)
      | ((with_reducible refine isLoad ?_); refine ld1A H ?_)
      | ((with_reducible refine isStore ?_); refine stA H ?_; clear H; intro _ H)
      | ((with_reducible refine isStore ?_); refine st1A H ?_; clear H; intro _ H)
      | ((with_reducible refine isBox ?_); refine bxA H ?_; clear H; intro _ _ H)
      | ((with_reducible refine isAlloc ?_); refine alA H ?_; clear H; intro _ _ H))
  have wcn2 := wcn
  clear um1 um2 um3 w40 w2
  go_loopw [31] (fun i_ wr => ∃ (k : Nat) (S1 : Sd) (mm : Ents) (B : Option Addr) (c1 : Nat) (xs cur1 : List Value), i_ = .int .i64 k ∧ k ≤ cn ∧ Hid (Upd m g 93 [S.v] [S1.v] mm) ∧ Hid (S1.ok w0) ∧ Hid (RowV 16 (.slice B k c1) k xs cur1) ∧ Hid (Hp w0 wr ((g5, 97, [.string nb, .bool (sgO (some x0)), .string (nuO (some x0)), .string (deO (some x0)), .bool (sgO (some y0)), .string (nuO (some y0)), .string (deO (some y0)), .bool false, .bool (sgO (some t0)), .string (nuO (some t0)), .string (deO (some t0)), .slice B k c1]) :: (g4, 97, [.string ⟨#[]⟩, .bool false, .string ⟨#[]⟩, .string ⟨#[]⟩, .bool false, .string ⟨#[]⟩, .string ⟨#[]⟩, .bool false, .bool false, .string ⟨#[]⟩, .string ⟨#[]⟩, .slice none 0 0]) :: (rowE (.slice B k c1) 139 cur1 ++ mm)))) (fun i_ _ => cn - (intOf i_).toNat)
  case atStart => exact ⟨0, _, m3, none, 0, [], [], rfl, by omega, U3, HS3, RowV.nil 16, H⟩
  case round =>
    clear H
    obtain ⟨k, S1, mm, B, c1, xs, cur1, rfl, hk1, UM, HT1, R, H⟩ := hrel
    by_cases hlt : k < cn
    · obtain ⟨ma, ua⟩ := upd_of_mem [S1.sn.v] UM.out.mem2
      obtain ⟨mb, ub⟩ := upd_of_mem [S1.sn.sn.v] ua.mem2
      obtain ⟨mc, uc⟩ := upd_of_mem [S1.sn.sn.sn.v] ub.mem2
      obtain ⟨md, ud⟩ := upd_of_mem [S1.sn.sn.sn.sn.v] uc.mem2
      obtain ⟨me, ue⟩ := upd_of_mem [S1.sn.sn.sn.sn.sn.v] ud.mem2
      obtain ⟨mf, uf⟩ := upd_of_mem [S1.sn.sn.sn.sn.sn.sn.v] ue.mem2
      have HT2 := Lib.hid HT1.out.next
      have HT3 := Lib.hid HT2.out.next
      have HT4 := Lib.hid HT3.out.next
      have HT5 := Lib.hid HT4.out.next
      have HT6 := Lib.hid HT5.out.next
      have HT7 := Lib.hid HT6.out.next
      have UM2 := Lib.hid ((((((UM.out.comp ND.out ua).comp ND.out ub).comp ND.out uc).comp ND.out ud).comp ND.out ue).comp ND.out uf)
      obtain ⟨p1, hp1⟩ : ∃ r, S1.nx 4 = r := ⟨_, rfl⟩
      have bp1 : 0 ≤ p1 ∧ p1 < 4 := by rw [← hp1]; exact S1.nx_bd 4 (by decide)
      obtain ⟨bp1l, bp1r⟩ := bp1
      obtain ⟨p2, hp2⟩ : ∃ r, S1.sn.nx 6 = r := ⟨_, rfl⟩
      have bp2 : 0 ≤ p2 ∧ p2 < 6 := by rw [← hp2]; exact S1.sn.nx_bd 6 (by decide)
      obtain ⟨bp2l, bp2r⟩ := bp2
      obtain ⟨p3, hp3⟩ : ∃ r, S1.sn.sn.nx 6 = r := ⟨_, rfl⟩
      have bp3 : 0 ≤ p3 ∧ p3 < 6 := by rw [← hp3]; exact S1.sn.sn.nx_bd 6 (by decide)
      obtain ⟨bp3l, bp3r⟩ := bp3
      obtain ⟨p4, hp4⟩ : ∃ r, S1.sn.sn.sn.nx 8 = r := ⟨_, rfl⟩
      have bp4 : 0 ≤ p4 ∧ p4 < 8 := by rw [← hp4]; exact S1.sn.sn.sn.nx_bd 8 (by decide)
      obtain ⟨bp4l, bp4r⟩ := bp4
      obtain ⟨p5, hp5⟩ : ∃ r, S1.sn.sn.sn.sn.nx 20 = r := ⟨_, rfl⟩
      have bp5 : 0 ≤ p5 ∧ p5 < 20 := by rw [← hp5]; exact S1.sn.sn.sn.sn.nx_bd 20 (by decide)
      obtain ⟨bp5l, bp5r⟩ := bp5
      obtain ⟨p6, hp6⟩ : ∃ r, S1.sn.sn.sn.sn.sn.nx 3 = r := ⟨_, rfl⟩
      have bp6 : 0 ≤ p6 ∧ p6 < 3 := by rw [← hp6]; exact S1.sn.sn.sn.sn.sn.nx_bd 3 (by decide)
      obtain ⟨bp6l, bp6r⟩ := bp6
      obtain ⟨lo, hlo⟩ : ∃ q : Int, 4 + 2 * p1 = q := ⟨_, rfl⟩
      obtain ⟨lo1, hlo1⟩ : ∃ q : Int, lo + 1 = q := ⟨_, rfl⟩
      obtain ⟨ng, hng⟩ : ∃ q : Int, -1 - p2 = q := ⟨_, rfl⟩
      obtain ⟨po, hpo⟩ : ∃ q : Int, 1 + p3 = q := ⟨_, rfl⟩
      obtain ⟨d4, hd4⟩ : ∃ d : Nat, 4 + p4 = d := ⟨(4 + p4).toNat, by omega⟩
      obtain ⟨d5, hd5⟩ : ∃ d : Nat, 10 + p5 = d := ⟨(10 + p5).toNat, by omega⟩
      have v1 : IntKind.i64.wrap (2 * p1) = 2 * p1 := IntWalk.i64_in _ (by omega)
      have v2 : IntKind.i64.wrap (4 + 2 * p1) = lo := by rw [hlo]; exact IntWalk.i64_in _ (by omega)
      have v3 : IntKind.i64.wrap (lo + 1) = lo1 := by rw [hlo1]; exact IntWalk.i64_in _ (by omega)
      have v4 : IntKind.i64.wrap (-1 - p2) = ng := by rw [hng]; exact IntWalk.i64_in _ (by omega)
      have v5 : IntKind.i64.wrap (1 + p3) = po := by rw [hpo]; exact IntWalk.i64_in _ (by omega)
      have v6 : IntKind.i64.wrap (4 + p4) = (d4 : Int) := by rw [hd4]; exact IntWalk.i64_in _ (by omega)
      have v7 : IntKind.i64.wrap (10 + p5) = (d5 : Int) := by rw [hd5]; exact IntWalk.i64_in _ (by omega)
      have lb : 4 ≤ lo ∧ lo ≤ 10 := by omega
      have lb1 : 5 ≤ lo1 ∧ lo1 ≤ 11 := by omega
      have ngb : -10 ≤ ng ∧ ng ≤ 0 := by omega
      have pob : 0 ≤ po ∧ po ≤ 10 := by omega
      have d4b : 0 < d4 ∧ d4 ≤ 1000 := by omega
      have d5b : 0 < d5 ∧ d5 ≤ 1000 := by omega
      clear hlo hlo1 hng hpo hd4 hd5
      obtain ⟨f1, Ef1⟩ : ∃ z : Rat, Hid (ofQ lo 4 = z) := ⟨_, rfl⟩
      obtain ⟨f2, Ef2⟩ : ∃ z : Rat, Hid (ofQ ng 3 = z) := ⟨_, rfl⟩
      obtain ⟨f3, Ef3⟩ : ∃ z : Rat, Hid (ofQ po 3 = z) := ⟨_, rfl⟩
      obtain ⟨f4, Ef4⟩ : ∃ z : Rat, Hid (ofQ 1 d4 = z) := ⟨_, rfl⟩
      obtain ⟨f5, Ef5⟩ : ∃ z : Rat, Hid (ofQ 1 d5 = z) := ⟨_, rfl⟩
      go_wp2_with (first
          | go_skip
          | ((with_reducible refine isLoad ?_); refine ldA H ?_)
          | ((with_reducible refine isLoad ?_); refine ld1A H ?_)
          | ((with_reducible refine isStore ?_); refine stA H ?_; clear H; intro _ H)
          | ((with_reducible refine isStore ?_); refine st1A H ?_; clear H; intro _ H)
          | ((with_reducible refine isBox ?_); refine bxA H ?_; clear H; intro _ _ H)
          | ((with_reducible refine isAlloc ?_); refine alA H ?_; clear H; intro _ _ H))
      have hX := nextH_any (m' := (g5, 97, [.string nb, .bool (sgO (some x0)), .string (nuO (some x0)), .string (deO (some x0)), .bool (sgO (some y0)), .string (nuO (some y0)), .string (deO (some y0)), .bool false, .bool (sgO (some t0)), .string (nuO (some t0)), .string (deO (some t0)), .slice B k c1]) :: (g4, 97, [.string ⟨#[]⟩, .bool false, .string ⟨#[]⟩, .string ⟨#[]⟩, .bool false, .string ⟨#[]⟩, .string ⟨#[]⟩, .bool false, .bool false, .string ⟨#[]⟩, .string ⟨#[]⟩, .slice none 0 0]) :: (rowE (.slice B k c1) 139 cur1 ++ ma)) S1 g 4 H HT1 (Lib.hid (by (repeat (first | exact Upd.app _ ua | apply Upd.tail)))) (by decide) (by decide)
      rw [hp1] at hX
      refine hX.mono ?_
      clear hX
      rintro _ _ ⟨rfl, H2⟩
      clear H
      have H := Lib.hid H2
      clear H2
      go_wp2_with (first
          | go_skip
          | ((with_reducible refine isLoad ?_); refine ldA H ?_)
          | ((with_reducible refine isLoad ?_); refine ld1A H ?_)
          | ((with_reducible refine isStore ?_); refine stA H ?_; clear H; intro _ H)
          | ((with_reducible refine isStore ?_); refine st1A H ?_; clear H; intro _ H)
          | ((with_reducible refine isBox ?_); refine bxA H ?_; clear H; intro _ _ H)
          | ((with_reducible refine isAlloc ?_); refine alA H ?_; clear H; intro _ _ H))
      refine (ofQ_any lo 4 f1 _ (by omega) (by omega) (by decide) (by decide) Ef1).mono ?_
      rintro _ _ ⟨rfl, hb⟩
      replace H := Lib.hid (H.out.go hb)
      clear hb
      go_wp2_with (first
          | go_skip
          | ((with_reducible refine isLoad ?_); refine ldA H ?_)
          | ((with_reducible refine isLoad ?_); refine ld1A H ?_)
          | ((with_reducible refine isStore ?_); refine stA H ?_; clear H; intro _ H)
          | ((with_reducible refine isStore ?_); refine st1A H ?_; clear H; intro _ H)
          | ((with_reducible refine isBox ?_); refine bxA H ?_; clear H; intro _ _ H)
          | ((with_reducible refine isAlloc ?_); refine alA H ?_; clear H; intro _ _ H))
      have hX := nextH_any (m' := (g5, 97, [.string nb, .bool (sgO (some x0)), .string (nuO (some x0)), .string (deO (some x0)), .bool (sgO (some y0)), .string (nuO (some y0)), .string (deO (some y0)), .bool false, .bool (sgO (some t0)), .string (nuO (some t0)), .string (deO (some t0)), .slice B k c1]) :: (g4, 97, [.string ⟨#[]⟩, .bool false, .string ⟨#[]⟩, .string ⟨#[]⟩, .bool false, .string ⟨#[]⟩, .string ⟨#[]⟩, .bool false, .bool false, .string ⟨#[]⟩, .string ⟨#[]⟩, .slice none 0 0]) :: (rowE (.slice B k c1) 139 cur1 ++ mb)) S1.sn g 6 H HT2 (Lib.hid (by (repeat (first | exact Upd.app _ ub | apply Upd.tail)))) (by decide) (by decide)
      rw [hp2] at hX
      refine hX.mono ?_
      clear hX
      rintro _ _ ⟨rfl, H2⟩
      clear H
      have H := Lib.hid H2
      clear H2
      go_wp2_with (first
          | go_skip
          | ((with_reducible refine isLoad ?_); refine ldA H ?_)
          | ((with_reducible refine isLoad ?_); refine ld1A H ?_)
          | ((with_reducible refine isStore ?_); refine stA H ?_; clear H; intro _ H)
          | ((with_reducible refine isStore ?_); refine st1A H ?_; clear H; intro _ H)
          | ((with_reducible refine isBox ?_); refine bxA H ?_; clear H; intro _ _ H)
          | ((with_reducible refine isAlloc ?_); refine alA H ?_; clear H; intro _ _ H))
      refine (ofQ_any ng 3 f2 _ (by omega) (by omega) (by decide) (by decide) Ef2).mono ?_
      rintro _ _ ⟨rfl, hb⟩
      replace H := Lib.hid (H.out.go hb)
      clear hb
      go_wp2_with (first
          | go_skip
          | ((with_reducible refine isLoad ?_); refine ldA H ?_)
          | ((with_reducible refine isLoad ?_); refine ld1A H ?_)
          | ((with_reducible refine isStore ?_); refine stA H ?_; clear H; intro _ H)
          | ((with_reducible refine isStore ?_); refine st1A H ?_; clear H; intro _ H)
          | ((with_reducible refine isBox ?_); refine bxA H ?_; clear H; intro _ _ H)
          | ((with_reducible refine isAlloc ?_); refine alA H ?_; clear H; intro _ _ H))
      have hX := nextH_any (m' := (g5, 97, [.string nb, .bool (sgO (some x0)), .string (nuO (some x0)), .string (deO (some x0)), .bool (sgO (some y0)), .string (nuO (some y0)), .string (deO (some y0)), .bool false, .bool (sgO (some t0)), .string (nuO (some t0)), .string (deO (some t0)), .slice B k c1]) :: (g4, 97, [.string ⟨#[]⟩, .bool false, .string ⟨#[]⟩, .string ⟨#[]⟩, .bool false, .string ⟨#[]⟩, .string ⟨#[]⟩, .bool false, .bool false, .string ⟨#[]⟩, .string ⟨#[]⟩, .slice none 0 0]) :: (rowE (.slice B k c1) 139 cur1 ++ mc)) S1.sn.sn g 6 H HT3 (Lib.hid (by (repeat (first | exact Upd.app _ uc | apply Upd.tail)))) (by decide) (by decide)
      rw [hp3] at hX
      refine hX.mono ?_
      clear hX
      rintro _ _ ⟨rfl, H2⟩
      clear H
      have H := Lib.hid H2
      clear H2
      go_wp2_with (first
          | go_skip
          | ((with_reducible refine isLoad ?_); refine ldA H ?_)
          | ((with_reducible refine isLoad ?_); refine ld1A H ?_)
          | ((with_reducible refine isStore ?_); refine stA H ?_; clear H; intro _ H)
          | ((with_reducible refine isStore ?_); refine st1A H ?_; clear H; intro _ H)
          | ((with_reducible refine isBox ?_); refine bxA H ?_; clear H; intro _ _ H)
          | ((with_reducible refine isAlloc ?_); refine alA H ?_; clear H; intro _ _ H))
      refine (ofQ_any po 3 f3 _ (by omega) (by omega) (by decide) (by decide) Ef3).mono ?_
      rintro _ _ ⟨rfl, hb⟩
      replace H := Lib.hid (H.out.go hb)
      clear hb
      go_wp2_with (first
          | go_skip
          | ((with_reducible refine isLoad ?_); refine ldA H ?_)
          | ((with_reducible refine isLoad ?_); refine ld1A H ?_)
          | ((with_reducible refine isStore ?_); refine stA H ?_; clear H; intro _ H)
          | ((with_reducible refine isStore ?_); refine st1A H ?_; clear H; intro _ H)
          | ((with_reducible refine isBox ?_); refine bxA H ?_; clear H; intro _ _ H)
          | ((with_reducible refine isAlloc ?_); refine alA H ?_; clear H; intro _ _ H))
      have hX := nextH_any (m' := (g5, 97, [.string nb, .bool (sgO (some x0)), .string (nuO (some x0)), .string (deO (some x0)), .bool (sgO (some y0)), .string (nuO (some y0)), .string (deO (some y0)), .bool false, .bool (sgO (some t0)), .string (nuO (some t0)), .string (deO (some t0)), .slice B k c1]) :: (g4, 97, [.string ⟨#[]⟩, .bool false, .string ⟨#[]⟩, .string ⟨#[]⟩, .bool false, .string ⟨#[]⟩, .string ⟨#[]⟩, .bool false, .bool false, .string ⟨#[]⟩, .string ⟨#[]⟩, .slice none 0 0]) :: (rowE (.slice B k c1) 139 cur1 ++ md)) S1.sn.sn.sn g 8 H HT4 (Lib.hid (by (repeat (first | exact Upd.app _ ud | apply Upd.tail)))) (by decide) (by decide)
      rw [hp4] at hX
      refine hX.mono ?_
      clear hX
      rintro _ _ ⟨rfl, H2⟩
      clear H
      have H := Lib.hid H2
      clear H2
      go_wp2_with (first
          | go_skip
          | ((with_reducible refine isLoad ?_); refine ldA H ?_)
          | ((with_reducible refine isLoad ?_); refine ld1A H ?_)
          | ((with_reducible refine isStore ?_); refine stA H ?_; clear H; intro _ H)
          | ((with_reducible refine isStore ?_); refine st1A H ?_; clear H; intro _ H)
          | ((with_reducible refine isBox ?_); refine bxA H ?_; clear H; intro _ _ H)
          | ((with_reducible refine isAlloc ?_); refine alA H ?_; clear H; intro _ _ H))
      refine (ofQ_any 1 d4 f4 _ (by decide) (by decide) d4b.1 (by omega) Ef4).mono ?_
      rintro _ _ ⟨rfl, hb⟩
      replace H := Lib.hid (H.out.go hb)
      clear hb
      go_wp2_with (first
          | go_skip
          | ((with_reducible refine isLoad ?_); refine ldA H ?_)
          | ((with_reducible refine isLoad ?_); refine ld1A H ?_)
          | ((with_reducible refine isStore ?_); refine stA H ?_; clear H; intro _ H)
          | ((with_reducible refine isStore ?_); refine st1A H ?_; clear H; intro _ H)
          | ((with_reducible refine isBox ?_); refine bxA H ?_; clear H; intro _ _ H)
          | ((with_reducible refine isAlloc ?_); refine alA H ?_; clear H; intro _ _ H))
      have hX := nextH_any (m' := (g5, 97, [.string nb, .bool (sgO (some x0)), .string (nuO (some x0)), .string (deO (some x0)), .bool (sgO (some y0)), .string (nuO (some y0)), .string (deO (some y0)), .bool false, .bool (sgO (some t0)), .string (nuO (some t0)), .string (deO (some t0)), .slice B k c1]) :: (g4, 97, [.string ⟨#[]⟩, .bool false, .string ⟨#[]⟩, .string ⟨#[]⟩, .bool false, .string ⟨#[]⟩, .string ⟨#[]⟩, .bool false, .bool false, .string ⟨#[]⟩, .string ⟨#[]⟩, .slice none 0 0]) :: (rowE (.slice B k c1) 139 cur1 ++ me)) S1.sn.sn.sn.sn g 20 H HT5 (Lib.hid (by (repeat (first | exact Upd.app _ ue | apply Upd.tail)))) (by decide) (by decide)
      rw [hp5] at hX
      refine hX.mono ?_
      clear hX
      rintro _ _ ⟨rfl, H2⟩
      clear H
      have H := Lib.hid H2
      clear H2
      go_wp2_with (first
          | go_skip
          | ((with_reducible refine isLoad ?_); refine ldA H ?_)
          | ((with_reducible refine isLoad ?_); refine ld1A H ?_)
          | ((with_reducible refine isStore ?_); refine stA H ?_; clear H; intro _ H)
          | ((with_reducible refine isStore ?_); refine st1A H ?_; clear H; intro _ H)
          | ((with_reducible refine isBox ?_); refine bxA H ?_; clear H; intro _ _ H)
          | ((with_reducible refine isAlloc ?_); refine alA H ?_; clear H; intro _ _ H))
      refine (ofQ_any 1 d5 f5 _ (by decide) (by decide) d5b.1 (by omega) Ef5).mono ?_
      rintro _ _ ⟨rfl, hb⟩
      replace H := Lib.hid (H.out.go hb)
      clear hb
      go_wp2_with (first
          | go_skip
          | ((with_reducible refine isLoad ?_); refine ldA H ?_)
          | ((with_reducible refine isLoad ?_); refine ld1A H ?_)
          | ((with_reducible refine isStore ?_); refine stA H ?_; clear H; intro _ H)
          | ((with_reducible refine isStore ?_); refine st1A H ?_; clear H; intro _ H)
          | ((with_reducible refine isBox ?_); refine bxA H ?_; clear H; intro _ _ H)
          | ((with_reducible refine isAlloc ?_); refine alA H ?_; clear H; intro _ _ H))
      refine (rect_any (-1) (-1) lo1 1 _ (by decide) (by decide) (by omega) (by decide) H.out.tb).mono ?_
      rintro _ _ ⟨br, rfl, H2⟩
      replace H := Lib.hid (H.out.go H2.bel)
      clear H2
      go_wp2_with (first
          | go_skip
          | ((with_reducible refine isAlloc ?_); refine alA (hz := zLnk) H ?_; clear H; intro _ _ H)
          | ((with_reducible refine isStore ?_); refine stA (hT := rLnk) H ?_; clear H; intro _ H)
          | ((with_reducible refine isLoad ?_); refine ldA H ?_)
          | ((with_reducible refine isLoad ?_); refine ld1A H ?_)
          | ((with_reducible refine isStore ?_); refine stA H ?_; clear H; intro _ H)
          | ((with_reducible refine isStore ?_); refine st1A H ?_; clear H; intro _ H)
          | ((with_reducible refine isBox ?_); refine bxA H ?_; clear H; intro _ _ H)
          | ((with_reducible refine isAlloc ?_); refine alA H ?_; clear H; intro _ _ H))
      rename_i g7 W7 W7b Ka hKa Kb hKb Kc hKc
      by_cases h6 : p6 = 2
      · subst h6
        have hX := nextH_any (m' := (g7, 139, [.bool (sgO (some f1)), .string (nuO (some f1)), .string (deO (some f1)), .bool (sgO (some f2)), .string (nuO (some f2)), .string (deO (some f2)), .bool (sgO (some f3)), .string (nuO (some f3)), .string (deO (some f3)), .bool (sgO (some f4)), .string (nuO (some f4)), .string (deO (some f4)), .bool (sgO (some f5)), .string (nuO (some f5)), .string (deO (some f5)), .slice (some ⟨br, 0, none⟩) 4 4]) :: (g5, 97, [.string nb, .bool (sgO (some x0)), .string (nuO (some x0)), .string (deO (some x0)), .bool (sgO (some y0)), .string (nuO (some y0)), .string (deO (some y0)), .bool false, .bool (sgO (some t0)), .string (nuO (some t0)), .string (deO (some t0)), .slice B k c1]) :: (g4, 97, [.string ⟨#[]⟩, .bool false, .string ⟨#[]⟩, .string ⟨#[]⟩, .bool false, .string ⟨#[]⟩, .string ⟨#[]⟩, .bool false, .bool false, .string ⟨#[]⟩, .string ⟨#[]⟩, .slice none 0 0]) :: (rowE (.slice B k c1) 139 cur1 ++ mf)) S1.sn.sn.sn.sn.sn g 3 H HT6 (Lib.hid (by (repeat (first | exact Upd.app _ uf | apply Upd.tail)))) (by decide) (by decide)
        rw [hp6] at hX
        refine hX.mono ?_
        clear hX
        rintro _ _ ⟨rfl, H2⟩
        clear H
        have H := Lib.hid H2
        clear H2
        go_wp2_with (first
            | go_skip
            | ((with_reducible refine isLoad ?_); refine ldA H ?_)
            | ((with_reducible refine isLoad ?_); refine ld1A H ?_)
            | ((with_reducible refine isStore ?_); refine stA H ?_; clear H; intro _ H)
            | ((with_reducible refine isStore ?_); refine st1A H ?_; clear H; intro _ H)
            | ((with_reducible refine isBox ?_); refine bxA H ?_; clear H; intro _ _ H)
            | ((with_reducible refine isAlloc ?_); refine alA H ?_; clear H; intro _ _ H))
        obtain ⟨q1, Eq1⟩ : ∃ z : Rat, Hid (ofQ (-1) 4 = z) := ⟨_, rfl⟩
        obtain ⟨q2, Eq2⟩ : ∃ z : Rat, Hid (ofQ (lo1) 4 = z) := ⟨_, rfl⟩
        obtain ⟨q3, Eq3⟩ : ∃ z : Rat, Hid (ofQ (0) 4 = z) := ⟨_, rfl⟩
        obtain ⟨q4, Eq4⟩ : ∃ z : Rat, Hid (ofQ (1) 4 = z) := ⟨_, rfl⟩
        refine (makeAt_any (-1) (-1) q1 q1 _ (by decide) (by decide) H.out.tb Eq1 Eq1).mono ?_
        rintro _ _ ⟨rfl, hb⟩
        replace H := Lib.hid (H.out.go hb)
        clear hb
        go_wp2_with (first
            | go_skip
            | ((with_reducible refine isLoad ?_); refine ldA H ?_)
            | ((with_reducible refine isLoad ?_); refine ld1A H ?_)
            | ((with_reducible refine isStore ?_); refine stA H ?_; clear H; intro _ H)
            | ((with_reducible refine isStore ?_); refine st1A H ?_; clear H; intro _ H)
            | ((with_reducible refine isBox ?_); refine bxA H ?_; clear H; intro _ _ H)
            | ((with_reducible refine isAlloc ?_); refine alA H ?_; clear H; intro _ _ H))
        refine (makeAt_any lo1 0 q2 q3 _ (by omega) (by decide) H.out.tb Eq2 Eq3).mono ?_
        rintro _ _ ⟨rfl, hb⟩
        replace H := Lib.hid (H.out.go hb)
        clear hb
        go_wp2_with (first
            | go_skip
            | ((with_reducible refine isLoad ?_); refine ldA H ?_)
            | ((with_reducible refine isLoad ?_); refine ld1A H ?_)
            | ((with_reducible refine isStore ?_); refine stA H ?_; clear H; intro _ H)
            | ((with_reducible refine isStore ?_); refine st1A H ?_; clear H; intro _ H)
            | ((with_reducible refine isBox ?_); refine bxA H ?_; clear H; intro _ _ H)
            | ((with_reducible refine isAlloc ?_); refine alA H ?_; clear H; intro _ _ H))
        refine (makeAt_any (-1) 1 q1 q4 _ (by decide) (by decide) H.out.tb Eq1 Eq4).mono ?_
        rintro _ _ ⟨rfl, hb⟩
        replace H := Lib.hid (H.out.go hb)
        clear hb
        go_wp2_with (first
            | go_skip
            | ((with_reducible refine isSlcT (t := 40) (n := 3) ?_); refine bsA 44 ([.bool (sgO (some q1)), .string (nuO (some q1)), .string (deO (some q1)), .bool (sgO (some q1)), .string (nuO (some q1)), .string (deO (some q1)), .bool (sgO (some q2)), .string (nuO (some q2)), .string (deO (some q2)), .bool (sgO (some q3)), .string (nuO (some q3)), .string (deO (some q3)), .bool (sgO (some q1)), .string (nuO (some q1)), .string (deO (some q1)), .bool (sgO (some q4)), .string (nuO (some q4)), .string (deO (some q4))]) 3 H (fun b3 Wb3 H1 => ?_); clear H; have H := H1; clear H1)
            | ((with_reducible refine isStore ?_); refine st1A (hT := sVecs) H ?_; clear H; intro _ H)
            | ((with_reducible refine isLoad ?_); refine ld1A (hT := kLnks) H ?_)
            | ((with_reducible refine isLoad ?_); refine ldA (hT := rLnk) H ?_)
            | ((with_reducible refine isSlcT (t := 95) (n := 1) ?_); refine bsA 139 ([.bool (sgO (some f1)), .string (nuO (some f1)), .string (deO (some f1)), .bool (sgO (some f2)), .string (nuO (some f2)), .string (deO (some f2)), .bool (sgO (some f3)), .string (nuO (some f3)), .string (deO (some f3)), .bool (sgO (some f4)), .string (nuO (some f4)), .string (deO (some f4)), .bool (sgO (some f5)), .string (nuO (some f5)), .string (deO (some f5)), .slice (some ⟨b3, 0, none⟩) 3 3]) 1 H (fun b72 Wb72 H1 => ?_); clear H; have H := H1; clear H1)
            | ((with_reducible refine isApp ?_); refine wpList_appH [(b72, 139, [.bool (sgO (some f1)), .string (nuO (some f1)), .string (deO (some f1)), .bool (sgO (some f2)), .string (nuO (some f2)), .string (deO (some f2)), .bool (sgO (some f3)), .string (nuO (some f3)), .string (deO (some f3)), .bool (sgO (some f4)), .string (nuO (some f4)), .string (deO (some f4)), .bool (sgO (some f5)), .string (nuO (some f5)), .string (deO (some f5)), .slice (some ⟨b3, 0, none⟩) 3 3]), (b3, 44, [.bool (sgO (some q1)), .string (nuO (some q1)), .string (deO (some q1)), .bool (sgO (some q1)), .string (nuO (some q1)), .string (deO (some q1)), .bool (sgO (some q2)), .string (nuO (some q2)), .string (deO (some q2)), .bool (sgO (some q3)), .string (nuO (some q3)), .string (deO (some q3)), .bool (sgO (some q1)), .string (nuO (some q1)), .string (deO (some q1)), .bool (sgO (some q4)), .string (nuO (some q4)), .string (deO (some q4))]), (g7, 139, [.bool (sgO (some f1)), .string (nuO (some f1)), .string (deO (some f1)), .bool (sgO (some f2)), .string (nuO (some f2)), .string (deO (some f2)), .bool (sgO (some f3)), .string (nuO (some f3)), .string (deO (some f3)), .bool (sgO (some f4)), .string (nuO (some f4)), .string (deO (some f4)), .bool (sgO (some f5)), .string (nuO (some f5)), .string (deO (some f5)), .slice (some ⟨b3, 0, none⟩) 3 3]), (g5, 97, [.string nb, .bool (sgO (some x0)), .string (nuO (some x0)), .string (deO (some x0)), .bool (sgO (some y0)), .string (nuO (some y0)), .string (deO (some y0)), .bool false, .bool (sgO (some t0)), .string (nuO (some t0)), .string (deO (some t0)), .slice B k c1]), (g4, 97, [.string ⟨#[]⟩, .bool false, .string ⟨#[]⟩, .string ⟨#[]⟩, .bool false, .string ⟨#[]⟩, .string ⟨#[]⟩, .bool false, .bool false, .string ⟨#[]⟩, .string ⟨#[]⟩, .slice none 0 0])] mf H R (by rfl) iLnk (by decide) uLnks (by rfl) (by rfl) (by rfl) (by rfl) (.head _) (by rfl) (by rfl) (by decide) (by unfold maxLen; omega) (by omega) (fun v4 cur4 W4 R4 H4 => ?_); clear H R; have R := R4; have H := H4; clear R4 H4; obtain ⟨B4, c4, hv4, hc4⟩ := R.out.shape; subst hv4; simp only [Act.put, List.setIfInBounds_toArray, List.set_cons_succ, List.set_cons_zero])
            | ((with_reducible refine isStore ?_); refine st1A (hT := sLnks) H ?_; clear H; intro _ H)
            | ((with_reducible refine isLoad ?_); refine ldA H ?_)
            | ((with_reducible refine isLoad ?_); refine ld1A H ?_)
            | ((with_reducible refine isStore ?_); refine stA H ?_; clear H; intro _ H)
            | ((with_reducible refine isStore ?_); refine st1A H ?_; clear H; intro _ H)
            | ((with_reducible refine isBox ?_); refine bxA H ?_; clear H; intro _ _ H)
            | ((with_reducible refine isAlloc ?_); refine alA H ?_; clear H; intro _ _ H))
        have H5 := Lib.hid (H.out.drop.drop.drop)
        clear H
        go_roundw
        case rel => exact ⟨k + 1, S1.sn.sn.sn.sn.sn.sn, mf, B4, c4, _, cur4, by go_num, by omega, UM2, HT7, R, H5⟩
        case measure => simp [intOf]; omega
      · skip
        have hX := nextH_any (m' := (g7, 139, [.bool (sgO (some f1)), .string (nuO (some f1)), .string (deO (some f1)), .bool (sgO (some f2)), .string (nuO (some f2)), .string (deO (some f2)), .bool (sgO (some f3)), .string (nuO (some f3)), .string (deO (some f3)), .bool (sgO (some f4)), .string (nuO (some f4)), .string (deO (some f4)), .bool (sgO (some f5)), .string (nuO (some f5)), .string (deO (some f5)), .slice (some ⟨br, 0, none⟩) 4 4]) :: (g5, 97, [.string nb, .bool (sgO (some x0)), .string (nuO (some x0)), .string (deO (some x0)), .bool (sgO (some y0)), .string (nuO (some y0)), .string (deO (some y0)), .bool false, .bool (sgO (some t0)), .string (nuO (some t0)), .string (deO (some t0)), .slice B k c1]) :: (g4, 97, [.string ⟨#[]⟩, .bool false, .string ⟨#[]⟩, .string ⟨#[]⟩, .bool false, .string ⟨#[]⟩, .string ⟨#[]⟩, .bool false, .bool false, .string ⟨#[]⟩, .string ⟨#[]⟩, .slice none 0 0]) :: (rowE (.slice B k c1) 139 cur1 ++ mf)) S1.sn.sn.sn.sn.sn g 3 H HT6 (Lib.hid (by (repeat (first | exact Upd.app _ uf | apply Upd.tail)))) (by decide) (by decide)
        rw [hp6] at hX
        refine hX.mono ?_
        clear hX
        rintro _ _ ⟨rfl, H2⟩
        clear H
        have H := Lib.hid H2
        clear H2
        go_wp2_with (first
            | go_skip
            | ((with_reducible refine isLoad ?_); refine ld1A (hT := kLnks) H ?_)
            | ((with_reducible refine isLoad ?_); refine ldA (hT := rLnk) H ?_)
            | ((with_reducible refine isSlcT (t := 95) (n := 1) ?_); refine bsA 139 ([.bool (sgO (some f1)), .string (nuO (some f1)), .string (deO (some f1)), .bool (sgO (some f2)), .string (nuO (some f2)), .string (deO (some f2)), .bool (sgO (some f3)), .string (nuO (some f3)), .string (deO (some f3)), .bool (sgO (some f4)), .string (nuO (some f4)), .string (deO (some f4)), .bool (sgO (some f5)), .string (nuO (some f5)), .string (deO (some f5)), .slice (some ⟨br, 0, none⟩) 4 4]) 1 H (fun b72 Wb72 H1 => ?_); clear H; have H := H1; clear H1)
            | ((with_reducible refine isApp ?_); refine wpList_appH [(b72, 139, [.bool (sgO (some f1)), .string (nuO (some f1)), .string (deO (some f1)), .bool (sgO (some f2)), .string (nuO (some f2)), .string (deO (some f2)), .bool (sgO (some f3)), .string (nuO (some f3)), .string (deO (some f3)), .bool (sgO (some f4)), .string (nuO (some f4)), .string (deO (some f4)), .bool (sgO (some f5)), .string (nuO (some f5)), .string (deO (some f5)), .slice (some ⟨br, 0, none⟩) 4 4]), (g7, 139, [.bool (sgO (some f1)), .string (nuO (some f1)), .string (deO (some f1)), .bool (sgO (some f2)), .string (nuO (some f2)), .string (deO (some f2)), .bool (sgO (some f3)), .string (nuO (some f3)), .string (deO (some f3)), .bool (sgO (some f4)), .string (nuO (some f4)), .string (deO (some f4)), .bool (sgO (some f5)), .string (nuO (some f5)), .string (deO (some f5)), .slice (some ⟨br, 0, none⟩) 4 4]), (g5, 97, [.string nb, .bool (sgO (some x0)), .string (nuO (some x0)), .string (deO (some x0)), .bool (sgO (some y0)), .string (nuO (some y0)), .string (deO (some y0)), .bool false, .bool (sgO (some t0)), .string (nuO (some t0)), .string (deO (some t0)), .slice B k c1]), (g4, 97, [.string ⟨#[]⟩, .bool false, .string ⟨#[]⟩, .string ⟨#[]⟩, .bool false, .string ⟨#[]⟩, .string ⟨#[]⟩, .bool false, .bool false, .string ⟨#[]⟩, .string ⟨#[]⟩, .slice none 0 0])] mf H R (by rfl) iLnk (by decide) uLnks (by rfl) (by rfl) (by rfl) (by rfl) (.head _) (by rfl) (by rfl) (by decide) (by unfold maxLen; omega) (by omega) (fun v4 cur4 W4 R4 H4 => ?_); clear H R; have R := R4; have H := H4; clear R4 H4; obtain ⟨B4, c4, hv4, hc4⟩ := R.out.shape; subst hv4; simp only [Act.put, List.setIfInBounds_toArray, List.set_cons_succ, List.set_cons_zero])
            | ((with_reducible refine isStore ?_); refine st1A (hT := sLnks) H ?_; clear H; intro _ H)
            | ((with_reducible refine isLoad ?_); refine ldA H ?_)
            | ((with_reducible refine isLoad ?_); refine ld1A H ?_)
            | ((with_reducible refine isStore ?_); refine stA H ?_; clear H; intro _ H)
            | ((with_reducible refine isStore ?_); refine st1A H ?_; clear H; intro _ H)
            | ((with_reducible refine isBox ?_); refine bxA H ?_; clear H; intro _ _ H)
            | ((with_reducible refine isAlloc ?_); refine alA H ?_; clear H; intro _ _ H))
        have H5 := Lib.hid (H.out.drop.drop)
        clear H
        go_roundw
        case rel => exact ⟨k + 1, S1.sn.sn.sn.sn.sn.sn, mf, B4, c4, _, cur4, by go_num, by omega, UM2, HT7, R, H5⟩
        case measure => simp [intOf]; omega
    · have hkn : k = cn := by omega
      subst hkn
      go_wp2_with (first
          | go_skip
          | ((with_reducible refine isLoad ?_); refine ldA (hT := rArm) H ?_)
          | ((with_reducible refine isStore ?_); refine stA (hT := rArm) H ?_; clear H; intro _ H)
          | ((with_reducible refine isLoad ?_); refine ldA H ?_)
          | ((with_reducible refine isLoad ?_); refine ld1A H ?_)
          | ((with_reducible refine isStore ?_); refine stA H ?_; clear H; intro _ H)
          | ((with_reducible refine isStore ?_); refine st1A H ?_; clear H; intro _ H)
          | ((with_reducible refine isBox ?_); refine bxA H ?_; clear H; intro _ _ H)
          | ((with_reducible refine isAlloc ?_); refine alA H ?_; clear H; intro _ _ H))
      exact bodyPost_ret (results_H H Tryz.results48 rArm rfl (by (repeat (first | exact List.Mem.head _ | refine List.Mem.tail _ ?_ | assumption))) (by rfl)) rfl ⟨nb, some x0, some y0, some t0, B, k, c1, S1, mm, rfl, HT1.out, UM.out, H.out.drop.drop.sub (List.sublist_append_right _ _)⟩
end Go.Proofs.YtmfejdikfpckdaaGreatDoor
