/- Words for memory that the walks of this seat share: slices of integers, a stream's block, frames. No program. · Points, convex polygons, the hull by two chains, tolerance, distance: plain laws on rationals. -/
import Derived.WalkKit
import Derived.WalkSpells
import Derived.WalkLawsBesides
import Derived.Deep.LoopGhost
import Derived.Deep.OwnRows
import Derived.Deep.AppendLies
import Derived.Maps.AppendAt
import Derived.Lib.Hide
import Derived.Test.YtmfejdikfpckdaaGreatDoorFc1
namespace Go.Proofs.YtmfejdikfpckdaaGreatDoor
open Go.RowKit

theorem ret_int {k : IntKind} {a b : Int} (h : a = b) : Ending.returned (.int k a) = .returned (.int k b) := by rw [h]
theorem below_drewN {B : Nat} {a w : World} (h : Below B a w) (n : Nat) : Below B a (w.drewN n) := h.drewN n
/-! A block that is known whole -/
def Blk (w : World) (g : Nat) (t : TypeId) (cs : Array Value) : Prop := w.heap[g]? = some (.cells cs t (0, 0))
section
variable {w w' : World} {g : Nat} {t : TypeId} {cs : Array Value}
theorem Blk.lt (h : Blk w g t cs) : g < w.heap.size := by
  rcases Nat.lt_or_ge g w.heap.size with hlt | hge
  · exact hlt
  · unfold Blk at h; rw [Array.getElem?_eq_none hge] at h; cases h
theorem Blk.cell (h : Blk w g t cs) (i : Nat) : w.cell? ⟨g, i, none⟩ = cs[i]? := cell_of_row w g i cs t (0, 0) h
theorem Blk.frozen (h : Blk w g t cs) (i : Nat) : w.frozen? ⟨g, i, none⟩ = false := by
  unfold Blk at h
  simp [World.frozen?, h]
theorem Blk.new (w : World) (t : TypeId) (cs : Array Value) : Blk (w.alloc (.cells cs t)) w.heap.size t cs := heap_alloc_new w _
theorem Blk.drew (h : Blk w g t cs) : Blk w.drew g t cs := h
theorem Blk.drewN (h : Blk w g t cs) (n : Nat) : Blk (w.drewN n) g t cs := h
theorem Blk.alloc (h : Blk w g t cs) (o : Obj) : Blk (w.alloc o) g t cs := (Below.heap_alloc w o g h.lt).trans h
theorem Blk.set_ (h : Blk w g t cs) (i : Nat) (u : Value) : Blk (w.setCell ⟨g, i, none⟩ u) g t (cs.setIfInBounds i u) := by
  unfold Blk at h ⊢
  simp [World.setCell, Array.getElem?_modify, h]
theorem Blk.far (h : Blk w g t cs) {p : Addr} (hp : g ≠ p.block) (u : Value) : Blk (w.setCell p u) g t cs := (Below.heap_setCell w p u g hp).trans h
theorem Blk.below {B : Nat} (h : Blk w g t cs) (hb : Below B w w') (hg : g < B) : Blk w' g t cs := (hb.block g hg).trans h
theorem Blk.grown {row : Option Nat} (h : Blk w g t cs) (hb : GrB w w' row) (hg : some g ≠ row) : Blk w' g t cs := (hb.block g h.lt hg).trans h
end

/-! A slice of integers that reads as a list -/
def RI (w : World) (A : Option Addr) (xs : List Int) : Prop :=
  0 < xs.length → ∃ b o, A = some ⟨b, o, none⟩ ∧ b < w.heap.size ∧ ∀ j x, xs[j]? = some x → w.cell? ⟨b, o + j, none⟩ = some (.int .i64 x)
section
variable {w w' : World} {A : Option Addr} {xs : List Int}
theorem RI.nil (w : World) (A : Option Addr) : RI w A [] := fun h => absurd h (by simp)
theorem own_cap {base : Nat} {e : TypeId} {size n c : Nat} {A : Option Addr} {ys : List Value} (h : w.ownsRow base e size (.slice A n c) n ys) : n ≤ c := by
  rcases h.2 with ⟨h1, h2⟩ | ⟨g', cap, cur, h1, _, _, h3, _⟩
  · omega
  · cases h1; exact h3
theorem own_slice {base : Nat} {e : TypeId} {size n : Nat} {v : Value} {ys : List Value} (h : w.ownsRow base e size v n ys) : ∃ A c, v = .slice A n c := by
  rcases h.2 with ⟨h1, h2⟩ | ⟨g', cap, cur, h1, _⟩
  · rw [h2]; exact ⟨_, _, h1⟩
  · exact ⟨_, _, h1⟩
end

/-! A slice of slices of integers -/
theorem some_at {α : Type} {l : List α} {k : Nat} (h : k < l.length) : ∃ x, l[k]? = some x := ⟨_, List.getElem?_eq_getElem h⟩
theorem lt_of_at {α : Type} {l : List α} {k : Nat} {x : α} (h : l[k]? = some x) : k < l.length := (List.getElem?_eq_some_iff.1 h).1

/-! The greatest of 0 and some numbers -/
/-! append of one element of one cell onto a row of the call's own -/
theorem wpList_append_one {P : Program} (w : World) {ops : Array Oper} {rest : List Oper} {o : Oper} {a : Act} {Q : Exit → Act → World → Prop} (hgd : o.guard = none) (s x : Operand) (t : TypeId)
    (ho : o.op = .call { callee := .builtin .append, args := #[s, x], argTypes := #[t, t] })
    (base : Nat) (e : TypeId) (i : TypeInfo) (z : Value) (bytes : Nat) (ht : P.underlying t = some (.slice e)) (hi : P.info? e = some i) (hz : i.zero = some z)
    (hsize : i.size = 1) (hby : i.bytes = bytes) (hzs : z.cells.size = 1)
    (v : Value) (n : Nat) (xs : List Value) (hs : a.eval s = v) (hown : w.ownsRow base e 1 v n xs)
    (g : Nat) (u : Value) (hx : a.eval x = .slice (some ⟨g, 0, none⟩) 1 1) (hu : w.cell? ⟨g, 0, none⟩ = some u) (h1 : u.oneCell' = true)
    (h63 : n + 1 ≤ maxLen) (hbytes : (n + 1) * bytes ≤ 140737488355328) (hbase : base ≤ w.heap.size)
    (h : ∀ v' w', w'.ownsRow base e 1 v' (n + 1) (xs ++ [u]) → GrB w w' v.ownBlock → wpList P ops Q rest (a.put o.dst v') w') : wpList P ops Q (o :: rest) a w :=
  by
  obtain ⟨v', w', hr, h2, h3, _⟩ := run_append_own (P := P) w base t o.type e i z 1 bytes ht hi hz hsize hby hzs (by omega) v n xs hown ⟨g, 0, none⟩ 1 1 [u] rfl
    (fun j u' hj => by
      rcases j with _ | j
      · simp at hj; subst hj; simpa [Addr.add_lit] using hu
      · simp at hj)
    (fun u' hu' => by simp at hu'; subst hu'; exact h1) h63 hbytes hbase
  refine wpList_plain hgd fun _ hK2 => ?_
  have hd := run_drawn _ hr
  unfold Oper.wp execOp
  simp only [ho, resolve, invoke, builtin, Sem.run_bind, Sem.run_pure, Result.andThen_ok, List.map_toArray, List.map_cons, List.map_nil, hs, hx, hr]
  exact hK2 _ _ (h v' w' h2 (.of h3 hd))
/-- Behind such an append: below the base nothing has turned. -/
theorem below_append {B : Nat} {a w w' : World} {e : TypeId} {size n : Nat} {v : Value} {xs : List Value} (h : Below B a w) (hown : w.ownsRow B e size v n xs) (hg : GrB w w' v.ownBlock) (hB : B ≤ w.heap.size) : Below B a w' :=
  h.grown hg hB fun k hk => (hown.lt k hk).1

/-! An array of integers of the call's own, known whole -/
end Go.Proofs.YtmfejdikfpckdaaGreatDoor

namespace Go.Proofs.YtmfejdikfpckdaaGreatDoor.FitT
set_option linter.unusedVariables false
abbrev V2 := Rat × Rat
/-- Twice the area of a triangle, with its sign. -/
def cr (a b c : V2) : Rat := (b.1 - a.1) * (c.2 - a.2) - (b.2 - a.2) * (c.1 - a.1)
/-- A linear function. -/
def lin (f : V2) (p : V2) : Rat := f.1 * p.1 + f.2 * p.2
theorem cr_anti (a b c : V2) : cr a b c = - cr a c b := by unfold cr; grind
theorem cr_aa (a b : V2) : cr a b a = 0 := by unfold cr; grind
theorem cr_bb (a b : V2) : cr a b b = 0 := by unfold cr; grind
theorem idA (f a b c d : V2) : cr a b d * (lin f c - lin f a) = cr a b c * (lin f d - lin f a) + cr a c d * (lin f b - lin f a) := by unfold cr lin; grind
theorem idB (f a b c d : V2) : cr a b d * (lin f c - lin f b) = cr a b c * (lin f d - lin f b) + cr b c d * (lin f b - lin f a) := by unfold cr lin; grind
theorem idC (f a b c d : V2) : cr a c d * (lin f c - lin f b) = cr a b c * (lin f d - lin f c) + cr b c d * (lin f c - lin f a) := by unfold cr lin; grind
theorem idD (f a b c d : V2) : cr a c d * (lin f d - lin f b) = cr a b d * (lin f d - lin f c) + cr b c d * (lin f d - lin f a) := by unfold cr lin; grind
theorem tri (x y : Rat) : x < y ∨ x = y ∨ y < x := by grind
theorem le_cases {x y : Rat} (h : x ≤ y) : x < y ∨ x = y := by grind
theorem pos_of_mul {x y : Rat} (h : 0 < x * y) (hy : 0 < y) : 0 < x := by
  rcases tri x 0 with h1 | h1 | h1
  · have := Rat.mul_pos (show 0 < -x by grind) hy
    grind
  · subst h1; grind
  · exact h1
theorem nonneg_of_mul {x y : Rat} (h : 0 ≤ x * y) (hy : 0 < y) : 0 ≤ x := by
  rcases tri x 0 with h1 | h1 | h1
  · have := Rat.mul_pos (show 0 < -x by grind) hy
    grind
  · grind
  · grind
theorem sgB {f a b c d : V2} (h1 : lin f a < lin f b) (h2 : lin f b < lin f c) (h3 : lin f c < lin f d) (x : 0 < cr a b c) (y : 0 < cr b c d) : 0 < cr a b d := by
  have e := idB f a b c d
  have := Rat.mul_pos x (show 0 < lin f d - lin f b by grind)
  have := Rat.mul_pos y (show 0 < lin f b - lin f a by grind)
  exact pos_of_mul (y := lin f c - lin f b) (by grind) (by grind)
theorem sgC {f a b c d : V2} (h1 : lin f a < lin f b) (h2 : lin f b < lin f c) (h3 : lin f c < lin f d) (x : 0 ≤ cr a b c) (y : 0 < cr b c d) : 0 < cr a c d := by
  have e := idC f a b c d
  have := Rat.mul_nonneg x (show 0 ≤ lin f d - lin f c by grind)
  have := Rat.mul_pos y (show 0 < lin f c - lin f a by grind)
  exact pos_of_mul (y := lin f c - lin f b) (by grind) (by grind)
theorem sgC2 {f a b c d : V2} (h1 : lin f a < lin f b) (h2 : lin f b < lin f c) (h3 : lin f c < lin f d) (x : cr a b c ≤ 0) (y : 0 < cr a c d) : 0 ≤ cr b c d := by
  have e := idC f a b c d
  have := Rat.mul_nonneg (show 0 ≤ - cr a b c by grind) (show 0 ≤ lin f d - lin f c by grind)
  have := Rat.mul_pos y (show 0 < lin f c - lin f b by grind)
  exact nonneg_of_mul (y := lin f c - lin f a) (by grind) (by grind)
theorem sgD {f a b c d : V2} (h1 : lin f a < lin f b) (h2 : lin f b < lin f c) (h3 : lin f c < lin f d) (x : cr a b d ≤ 0) (y : cr b c d ≤ 0) : cr a c d ≤ 0 := by
  have e := idD f a b c d
  have := Rat.mul_nonneg (show 0 ≤ - cr a b d by grind) (show 0 ≤ lin f d - lin f c by grind)
  have := Rat.mul_nonneg (show 0 ≤ - cr b c d by grind) (show 0 ≤ lin f d - lin f a by grind)
  have := nonneg_of_mul (x := - cr a c d) (y := lin f d - lin f b) (by grind) (by grind)
  grind
theorem sgA {f a b c d : V2} (h1 : lin f a < lin f b) (h2 : lin f b < lin f c) (h3 : lin f c < lin f d) (x : cr a b c ≤ 0) (y : cr a c d ≤ 0) : cr a b d ≤ 0 := by
  have e := idA f a b c d
  have := Rat.mul_nonneg (show 0 ≤ - cr a b c by grind) (show 0 ≤ lin f d - lin f a by grind)
  have := Rat.mul_nonneg (show 0 ≤ - cr a c d by grind) (show 0 ≤ lin f b - lin f a by grind)
  have := nonneg_of_mul (x := - cr a b d) (y := lin f c - lin f a) (by grind) (by grind)
  grind
/-- A stack (its top first) of corners over points Q. -/
def Good (f : V2) (Q : List V2) : List V2 → Prop
  | t :: u :: r => lin f u < lin f t ∧ (∀ q ∈ Q, 0 ≤ cr u t q) ∧ (∀ v, r.head? = some v → 0 < cr v u t) ∧ Good f Q (u :: r)
  | _ => True
def pushR : List V2 → V2 → List V2
  | t :: u :: r, p => if cr u t p ≤ 0 then pushR (u :: r) p else p :: t :: u :: r
  | s, p => p :: s
theorem Good.tail {f : V2} {Q : List V2} {t : V2} : ∀ {r : List V2}, Good f Q (t :: r) → Good f Q r
  | [], _ => trivial
  | u :: r, h => h.2.2.2
/-- a further point p to the left of the topmost edge -/
theorem Good.more {f p : V2} {Q : List V2} : ∀ (r : List V2) (t u : V2), Good f Q (t :: u :: r) → 0 < cr u t p → lin f t < lin f p → Good f (p :: Q) (t :: u :: r)
  | [], t, u, h, hp, ht => ⟨h.1, fun q hq => by rcases List.mem_cons.1 hq with rfl | hq; exact Rat.le_of_lt hp; exact h.2.1 q hq, by simp, trivial⟩
  | v :: r, t, u, h, hp, ht => by
    have hv := h.2.2.1 v rfl
    have h2 := h.2.2.2
    refine ⟨h.1, fun q hq => ?_, h.2.2.1, Good.more r u v h2 (sgB h2.1 h.1 ht hv hp) (by have := h.1; grind)⟩
    rcases List.mem_cons.1 hq with rfl | hq
    · exact Rat.le_of_lt hp
    · exact h.2.1 q hq
theorem Good.push {f p : V2} {Q : List V2} (hinj : ∀ a ∈ Q, ∀ b ∈ Q, lin f a = lin f b → a = b) (hp : ∀ q ∈ Q, lin f q < lin f p) : ∀ (s : List V2) (t : V2), Good f Q (t :: s) → (∀ x ∈ t :: s, x ∈ Q) → (∀ q ∈ Q, lin f ((t :: s).getLast (by simp)) ≤ lin f q) →
    (∀ q ∈ Q, lin f t < lin f q → cr t q p ≤ 0) → Good f (p :: Q) (pushR (t :: s) p)
  | [], t, h, hm, hb, hH => by
    refine ⟨hp t (hm t (by simp)), fun q hq => ?_, by simp, trivial⟩
    rcases List.mem_cons.1 hq with rfl | hq
    · rw [cr_bb]; exact Rat.le_refl
    · have h1 := hb q hq
      simp only [List.getLast_singleton] at h1
      rcases le_cases h1 with h1 | h1
      · have := hH q hq h1
        have := cr_anti t p q
        grind
      · obtain rfl := hinj _ (hm t (by simp)) _ hq h1
        rw [cr_aa]; exact Rat.le_refl
  | u :: r, t, h, hm, hb, hH => by
    have hut := h.1
    have ht : t ∈ Q := hm t (by simp)
    have hu : u ∈ Q := hm u (by simp)
    unfold pushR
    split
    · rename_i hc
      refine Good.push hinj hp r u h.2.2.2 (fun x hx => hm x (.tail _ hx)) (fun q hq => by simpa using hb q hq) fun q hq huq => ?_
      rcases tri (lin f q) (lin f t) with h1 | h1 | h1
      · have e1 := h.2.1 q hq
        have e2 := cr_anti u t q
        exact sgA huq h1 (hp t ht) (by grind) hc
      · obtain rfl := hinj _ hq _ ht h1
        exact hc
      · exact sgD hut h1 (hp q hq) hc (hH q hq h1)
    · rename_i hc
      have hc : 0 < cr u t p := by grind
      refine ⟨hp t ht, fun q hq => ?_, fun v hv => ?_, h.more _ _ _ hc (hp t ht)⟩
      · rcases List.mem_cons.1 hq with rfl | hq
        · rw [cr_bb]; exact Rat.le_refl
        · rcases tri (lin f q) (lin f t) with h1 | h1 | h1
          · have e3 : cr t p q = cr q t p := by unfold cr; grind
            rw [e3]
            rcases tri (lin f q) (lin f u) with h2 | h2 | h2
            · have e1 := h.2.1 q hq
              have e4 : cr u t q = cr q u t := by unfold cr; grind
              exact Rat.le_of_lt (sgC h2 hut (hp t ht) (by grind) hc)
            · obtain rfl := hinj _ hq _ hu h2
              exact Rat.le_of_lt hc
            · have e1 := h.2.1 q hq
              have e2 := cr_anti u t q
              exact sgC2 h2 h1 (hp t ht) (by grind) hc
          · obtain rfl := hinj _ hq _ ht h1
            rw [cr_aa]; exact Rat.le_refl
          · have := hH q hq h1
            have := cr_anti t p q
            grind
      · cases hv; exact hc

/-- the stack behind a further point: the point on top of an end of the stack -/
theorem push_eq (p : V2) : ∀ (s : List V2) (t : V2), ∃ r, pushR (t :: s) p = p :: r ∧ r <:+ (t :: s) ∧ r ≠ []
  | [], t => ⟨[t], rfl, List.suffix_refl _, by simp⟩
  | u :: r, t => by
    unfold pushR
    split
    · obtain ⟨r', h1, h2, h3⟩ := push_eq p r u
      exact ⟨r', h1, h2.trans (List.suffix_cons _ _), h3⟩
    · exact ⟨_, rfl, List.suffix_refl _, by simp⟩
theorem last_suffix {r s : List V2} (h : r <:+ s) (hr : r ≠ []) (hs : s ≠ []) : s.getLast hs = r.getLast hr := by
  obtain ⟨p, rfl⟩ := h
  exact List.getLast_append_of_ne_nil _ hr
/-- what holds of a stack over the points Q -/
structure Stk (f : V2) (Q : List V2) (t : V2) (s : List V2) (z : V2) : Prop where
  good : Good f Q (t :: s)
  mem : ∀ x ∈ t :: s, x ∈ Q
  top : ∀ q ∈ Q, lin f q ≤ lin f t
  last : (t :: s).getLast (by simp) = z
  low : ∀ q ∈ Q, lin f z ≤ lin f q
theorem Stk.push {f : V2} {Q : List V2} {t z p : V2} {s : List V2} (h : Stk f Q t s z) (hinj : ∀ a ∈ Q, ∀ b ∈ Q, lin f a = lin f b → a = b) (hp : ∀ q ∈ Q, lin f q < lin f p) :
    ∃ s', pushR (t :: s) p = p :: s' ∧ s' ≠ [] ∧ Stk f (p :: Q) p s' z := by
  obtain ⟨r, h1, h2, h3⟩ := push_eq p s t
  refine ⟨r, h1, h3, ?_, fun x hx => ?_, fun q hq => ?_, ?_, fun q hq => ?_⟩
  · rw [← h1]
    exact Good.push hinj hp s t h.good h.mem (fun q hq => by rw [h.last]; exact h.low q hq) fun q hq hlt => absurd hlt (by have := h.top q hq; grind)
  · rcases List.mem_cons.1 hx with rfl | hx
    · exact .head _
    · exact .tail _ (h.mem x (h2.subset hx))
  · rcases List.mem_cons.1 hq with rfl | hq
    · exact Rat.le_refl
    · exact Rat.le_of_lt (hp q hq)
  · rw [List.getLast_cons h3, ← last_suffix h2 h3 (by simp)]; exact h.last
  · rcases List.mem_cons.1 hq with rfl | hq
    · have := hp z (by rw [← h.last]; exact h.mem _ (List.getLast_mem _)); grind
    · exact h.low q hq
theorem Stk.fold {f : V2} : ∀ (l : List V2) {Q : List V2} {t z : V2} {s : List V2}, Stk f Q t s z → (∀ a ∈ Q, ∀ b ∈ Q, lin f a = lin f b → a = b) → l.Pairwise (fun a b => lin f a < lin f b) → (∀ q ∈ Q, ∀ p ∈ l, lin f q < lin f p) → l ≠ [] →
    ∃ t' s', l.foldl pushR (t :: s) = t' :: s' ∧ s' ≠ [] ∧ Stk f (l.reverse ++ Q) t' s' z
  | [], _, _, _, _, _, _, _, _, hl => absurd rfl hl
  | p :: l, Q, t, z, s, h, hinj, hw, hQ, _ => by
    obtain ⟨s1, e1, e2, h1⟩ := h.push hinj (fun q hq => hQ q hq p (.head _))
    have hw' := List.pairwise_cons.1 hw
    rw [List.foldl_cons, e1]
    have hQ' : ∀ q ∈ p :: Q, ∀ x ∈ l, lin f q < lin f x := fun q hq x hx => by
      rcases List.mem_cons.1 hq with rfl | hq
      · exact hw'.1 x hx
      · exact hQ q hq x (.tail _ hx)
    have hinj' : ∀ a ∈ p :: Q, ∀ b ∈ p :: Q, lin f a = lin f b → a = b := fun a ha b hb e => by
      rcases List.mem_cons.1 ha with ea | ga <;> rcases List.mem_cons.1 hb with eb | gb
      · rw [ea, eb]
      · have := hQ b gb p (.head _); rw [ea] at e; grind
      · have := hQ a ga p (.head _); rw [eb] at e; grind
      · exact hinj a ga b gb e
    by_cases hl : l = []
    · subst hl
      exact ⟨p, s1, rfl, e2, h1⟩
    · obtain ⟨t', s', g1, g2, g3⟩ := Stk.fold l h1 hinj' hw'.2 hQ' hl
      exact ⟨t', s', g1, g2, by simpa using g3⟩
/-- The chain over points whose heights rise. -/
theorem chain_stk {f : V2} {x : V2} {l : List V2} (hw : (x :: l).Pairwise (fun a b => lin f a < lin f b)) (hl : l ≠ []) : ∃ t s, (x :: l).foldl pushR [] = t :: s ∧ s ≠ [] ∧ Stk f (l.reverse ++ [x]) t s x := by
  have h0 : Stk f [x] x [] x := ⟨trivial, by simp, by simp, rfl, by simp⟩
  exact Stk.fold l h0 (by simp) (List.pairwise_cons.1 hw).2 (by simpa using (List.pairwise_cons.1 hw).1) hl
/-- all edges of a stack -/
def AllE (P : V2 → V2 → Prop) : List V2 → Prop
  | t :: u :: r => P u t ∧ AllE P (u :: r)
  | _ => True
theorem AllE.imp {P R : V2 → V2 → Prop} (h : ∀ a b, P a b → R a b) : ∀ l, AllE P l → AllE R l
  | [], _ => trivial
  | [_], _ => trivial
  | t :: u :: r, g => ⟨h _ _ g.1, AllE.imp h (u :: r) g.2⟩
theorem Good.edges {f : V2} {Q : List V2} : ∀ l, Good f Q l → AllE (fun a b => lin f a < lin f b ∧ ∀ q ∈ Q, 0 ≤ cr a b q) l
  | [], _ => trivial
  | [_], _ => trivial
  | t :: u :: r, g => ⟨⟨g.1, g.2.1⟩, Good.edges (u :: r) g.2.2.2⟩
theorem Good.up {f p : V2} {Q : List V2} : ∀ (r : List V2) (t u : V2), Good f Q (t :: u :: r) → 0 < cr u t p → lin f t < lin f p → AllE (fun a b => 0 < cr a b p) (t :: u :: r)
  | [], t, u, h, hp, ht => ⟨hp, trivial⟩
  | v :: r, t, u, h, hp, ht => ⟨hp, Good.up r u v h.2.2.2 (sgB h.2.2.2.1 h.1 ht (h.2.2.1 v rfl) hp) (by have := h.1; grind)⟩
theorem Good.lows {f : V2} {Q : List V2} : ∀ (r : List V2) (t : V2), Good f Q (t :: r) → ∀ c ∈ r, lin f c < lin f t
  | u :: r, t, h, c, hc => by
    rcases List.mem_cons.1 hc with rfl | hc
    · exact h.1
    · have := Good.lows r u h.2.2.2 c hc; have := h.1; grind
theorem Good.dn {f : V2} {Q : List V2} : ∀ (r : List V2) (t u : V2), Good f Q (t :: u :: r) → ∀ c ∈ r, 0 < cr c u t
  | v :: r, t, u, h, c, hc => by
    have h1 := h.2.2.1 v rfl
    rcases List.mem_cons.1 hc with rfl | hc
    · exact h1
    · exact sgC (Good.lows r v h.2.2.2.2.2.2 c hc) h.2.2.2.1 h.1 (Rat.le_of_lt (Good.dn r u v h.2.2.2 c hc)) h1
/-- Each corner of a chain is strictly to the left of the edges that it does not end. -/
theorem Good.str {f : V2} {Q : List V2} : ∀ (l : List V2), Good f Q l → ∀ c ∈ l, AllE (fun a b => c = a ∨ c = b ∨ 0 < cr a b c) l
  | [], _, _, _ => trivial
  | [_], _, _, _ => trivial
  | t :: u :: r, h, c, hc => by
    rcases List.mem_cons.1 hc with rfl | hc
    · refine ⟨.inr (.inl rfl), ?_⟩
      cases r with
      | nil => trivial
      | cons v r => exact AllE.imp (fun a b g => .inr (.inr g)) _ (Good.up r u v h.2.2.2 (h.2.2.1 v rfl) h.1)
    · refine ⟨?_, Good.str (u :: r) h.2.2.2 c hc⟩
      rcases List.mem_cons.1 hc with rfl | hc
      · exact .inl rfl
      · have := Good.dn r t u h c hc
        have e : cr u t c = cr c u t := by unfold cr; grind
        exact .inr (.inr (by rw [e]; exact this))
/-- A corner of the chain that leads back, against an edge of the chain that leads on. -/
theorem opp {f a b p c n : V2} (hab : lin f a < lin f b) (h1 : 0 ≤ cr a b p) (h2 : 0 ≤ cr a b n) (h3 : 0 ≤ cr a b c) (hn : lin f n < lin f c) (hp : lin f c < lin f p) (h : 0 < cr p c n) : 0 < cr a b c := by
  rcases le_cases h3 with h3 | h3
  · exact h3
  · exfalso
    have e : cr p c n * (lin f b - lin f a) = (cr a b c - cr a b n) * (lin f p - lin f c) + (cr a b c - cr a b p) * (lin f c - lin f n) := by unfold cr lin; grind
    have := Rat.mul_pos h (show 0 < lin f b - lin f a by grind)
    have := Rat.mul_nonneg (show 0 ≤ -(cr a b c - cr a b n) by grind) (show 0 ≤ lin f p - lin f c by grind)
    have := Rat.mul_nonneg (show 0 ≤ -(cr a b c - cr a b p) by grind) (show 0 ≤ lin f c - lin f n by grind)
    grind

/-- neighbours in a list -/
def AllF (P : V2 → V2 → Prop) : List V2 → Prop
  | a :: b :: r => P a b ∧ AllF P (b :: r)
  | _ => True
theorem AllF.app {P : V2 → V2 → Prop} (y : V2) (z : List V2) : ∀ x, AllF P (x ++ [y]) → AllF P (y :: z) → AllF P (x ++ y :: z)
  | [], _, h => h
  | [a], g, h => ⟨g.1, h⟩
  | a :: b :: r, g, h => ⟨g.1, AllF.app y z (b :: r) g.2 h⟩
theorem AllE.rev {P : V2 → V2 → Prop} : ∀ l, AllE P l → AllF P l.reverse
  | [], _ => trivial
  | [_], _ => trivial
  | t :: u :: r, h => by
    have h2 := AllE.rev (u :: r) h.2
    rw [List.reverse_cons] at h2 ⊢
    rw [List.reverse_cons, List.append_assoc]
    exact AllF.app u [t] r.reverse h2 ⟨h.1, trivial⟩
theorem AllF.at_ {P : V2 → V2 → Prop} : ∀ {l : List V2} (i : Nat) {a b : V2}, AllF P l → l[i]? = some a → l[i + 1]? = some b → P a b
  | [], i, a, b, _, h, _ => by simp at h
  | [_], i, a, b, _, _, h => by simp at h
  | x :: y :: r, 0, a, b, g, h1, h2 => by simp at h1 h2; subst h1; subst h2; exact g.1
  | x :: y :: r, i + 1, a, b, g, h1, h2 => AllF.at_ (l := y :: r) i g.2 (by simpa using h1) (by simpa using h2)
theorem Good.sorted {f : V2} {Q : List V2} : ∀ l, Good f Q l → l.Pairwise (fun a b => lin f b < lin f a)
  | [], _ => .nil
  | t :: r, h => .cons (Good.lows r t h) (Good.sorted r h.tail)
/-- the corner inside a chain, with its neighbours -/
theorem mid_of {t z : V2} : ∀ (s : List V2) (c : V2), c ∈ t :: s → c ≠ t → (t :: s).getLast (by simp) = z → c ≠ z → ∃ pre n p r, t :: s = pre ++ n :: c :: p :: r
  | [], c, hc, h1, _, _ => absurd (by simpa using hc) h1
  | [u], c, hc, h1, h2, h3 => by
    simp at hc h2
    rcases hc with hc | hc
    · exact absurd hc h1
    · exact absurd (hc.trans h2) h3
  | u :: v :: r, c, hc, h1, h2, h3 => by
    by_cases e : c = u
    · subst e; exact ⟨[], t, v, r, rfl⟩
    · obtain ⟨pre, n, p, r', g⟩ := mid_of (t := u) (v :: r) c (by rcases List.mem_cons.1 hc with hc | hc; exact absurd hc h1; exact hc) e (by simpa using h2) h3
      exact ⟨t :: pre, n, p, r', by rw [g]; rfl⟩
theorem Good.drop {f : V2} {Q : List V2} : ∀ (pre : List V2) {l : List V2}, Good f Q (pre ++ l) → Good f Q l
  | [], _, h => h
  | _ :: pre, _, h => Good.drop pre h.tail
/-- The corners of the chain that leads back (its heights those of -f) against the edges of the one that leads on. -/
theorem opp_all {f g : V2} {Q Q2 : List V2} (hg : ∀ p, lin g p = - lin f p) {s1 : List V2} {t z : V2} {s2 : List V2} (h1 : Good f Q s1) (h2 : Good g Q2 (t :: s2)) (hm : ∀ x ∈ t :: s2, x ∈ Q) (hz : (t :: s2).getLast (by simp) = z)
    (c : V2) (hc : c ∈ t :: s2) (e1 : c ≠ t) (e2 : c ≠ z) : AllE (fun a b => 0 < cr a b c) s1 := by
  obtain ⟨pre, n, p, r, e⟩ := mid_of s2 c hc e1 hz e2
  have h3 := Good.drop pre (e ▸ h2)
  have hh : ∀ x ∈ n :: c :: p :: r, x ∈ Q := fun x hx => hm x (by rw [e]; exact List.mem_append_right _ hx)
  refine AllE.imp (fun a b k => ?_) _ (Good.edges s1 h1)
  have a1 := h3.1
  have a2 := h3.2.2.2.1
  rw [hg, hg] at a1 a2
  exact opp k.1 (k.2 p (hh p (by simp))) (k.2 n (hh n (by simp))) (k.2 c (hh c (by simp))) (by grind) (by grind) (h3.2.2.1 p rfl)
theorem AllE.all {R : V2 → V2 → V2 → Prop} {out : List V2} : ∀ l, (∀ c ∈ out, AllE (R c) l) → AllE (fun a b => ∀ c ∈ out, R c a b) l
  | [], _ => trivial
  | [_], _ => trivial
  | t :: u :: r, h => ⟨fun c hc => (h c hc).1, AllE.all (u :: r) fun c hc => (h c hc).2⟩
theorem AllE.drop {P : V2 → V2 → Prop} : ∀ (pre : List V2) {l : List V2}, AllE P (pre ++ l) → AllE P l
  | [], _, h => h
  | [a], [], h => trivial
  | [a], b :: r, h => h.2
  | a :: b :: pre, l, h => AllE.drop (b :: pre) h.2
/-- the hull of points whose heights rise: both chains, each without its top. -/
def hullP (l : List V2) : List V2 := (l.foldl pushR []).tail.reverse ++ (l.reverse.foldl pushR []).tail.reverse
structure Cvx (l : List V2) : Prop where
  three : 3 ≤ l.length
  edge : ∀ (i j : Nat) (a b c : V2), l[i]? = some a → l[(i + 1) % l.length]? = some b → l[j]? = some c → j ≠ i → j ≠ (i + 1) % l.length → 0 < cr a b c
theorem hull_cvx {f : V2} {x : V2} {l : List V2} (hw : (x :: l).Pairwise (fun a b => lin f a < lin f b)) (hl : l ≠ []) (hn : ∃ a ∈ x :: l, ∃ b ∈ x :: l, ∃ c ∈ x :: l, cr a b c ≠ 0) :
    Cvx (hullP (x :: l)) ∧ (∀ c ∈ hullP (x :: l), c ∈ x :: l) ∧ ∀ (i : Nat) (a b : V2), (hullP (x :: l))[i]? = some a → (hullP (x :: l))[(i + 1) % (hullP (x :: l)).length]? = some b → ∀ q ∈ x :: l, 0 ≤ cr a b q := by
  obtain ⟨t1, s1, e1, n1, k1⟩ := chain_stk hw hl
  let g : V2 := (-f.1, -f.2)
  have hg : ∀ p, lin g p = - lin f p := fun p => by show -f.1 * p.1 + -f.2 * p.2 = -(f.1 * p.1 + f.2 * p.2); grind
  have hg' : ∀ p, lin f p = - lin g p := fun p => by rw [hg]; grind
  obtain ⟨y, m, ey⟩ : ∃ y m, (x :: l).reverse = y :: m := by
    cases h : (x :: l).reverse with
    | nil => simp at h
    | cons y m => exact ⟨y, m, rfl⟩
  have hw2 : (y :: m).Pairwise (fun a b => lin g a < lin g b) := by
    rw [← ey, List.pairwise_reverse]
    exact hw.imp fun h => by rw [hg, hg]; grind
  have hm0 : m ≠ [] := by
    intro h; subst h
    have := congrArg List.length ey
    simp at this
    exact hl (by cases l with | nil => rfl | cons => simp at this)
  obtain ⟨t2, s2, e2, n2, k2⟩ := chain_stk hw2 hm0
  have q1 : ∀ q, q ∈ l.reverse ++ [x] ↔ q ∈ x :: l := fun q => by simp [or_comm]
  have q2 : ∀ q, q ∈ m.reverse ++ [y] ↔ q ∈ x :: l := fun q => by
    have : q ∈ y :: m ↔ q ∈ x :: l := by rw [← ey]; simp [or_comm]
    rw [← this]; simp [or_comm]
  have inj : ∀ a ∈ x :: l, ∀ b ∈ x :: l, lin f a = lin f b → a = b := by
    have := hw
    intro a ha b hb e
    obtain ⟨i, hi, rfl⟩ := List.getElem_of_mem ha
    obtain ⟨j, hj, rfl⟩ := List.getElem_of_mem hb
    rw [List.pairwise_iff_getElem] at this
    rcases Nat.lt_trichotomy i j with h | h | h
    · have := this i j hi hj h; grind
    · subst h; rfl
    · have := this j i hj hi h; grind
  -- the ends meet
  have et1 : t1 = y := by
    have a1 := k1.top y ((q1 y).2 ((q2 y).1 (by simp)))
    have a2 := k2.low t1 ((q2 t1).2 ((q1 t1).1 (k1.mem t1 (by simp))))
    rw [hg, hg] at a2
    exact inj _ ((q1 t1).1 (k1.mem t1 (by simp))) _ ((q2 y).1 (by simp)) (by grind)
  have et2 : t2 = x := by
    have a1 := k2.top x ((q2 x).2 (by simp))
    have a2 := k1.low t2 ((q1 t2).2 ((q2 t2).1 (k2.mem t2 (by simp))))
    rw [hg, hg] at a1
    exact inj _ ((q2 t2).1 (k2.mem t2 (by simp))) _ (by simp) (by grind)
  subst et1; subst et2
  have g1 := k1.good
  have g2 := k2.good
  have so1 := List.pairwise_cons.1 (Good.sorted _ g1)
  have so2 := List.pairwise_cons.1 (Good.sorted _ g2)
  have ho : hullP (t2 :: l) = s1.reverse ++ s2.reverse := by
    unfold hullP
    rw [ey, e1, e2]; rfl
  have m1 : ∀ c ∈ t1 :: s1, c ∈ t2 :: l := fun c hc => (q1 c).1 (k1.mem c hc)
  have m2 : ∀ c ∈ t2 :: s2, c ∈ t2 :: l := fun c hc => (q2 c).1 (k2.mem c hc)
  have d1 : ∀ c ∈ s1, c ≠ t1 := fun c hc e => by subst e; have := so1.1 c hc; grind
  have d2 : ∀ c ∈ s2, c ≠ t2 := fun c hc e => by subst e; have := so2.1 c hc; grind
  have o1 : ∀ c ∈ s2, c ≠ t1 → AllE (fun a b => 0 < cr a b c) (t1 :: s1) := fun c hc h => opp_all hg g1 (g2) (fun z hz => (q1 z).2 (m2 z hz)) k2.last c (.tail _ hc) (d2 c hc) h
  have o2 : ∀ c ∈ s1, c ≠ t2 → AllE (fun a b => 0 < cr a b c) (t2 :: s2) := fun c hc h => opp_all hg' g2 (g1) (fun z hz => (q2 z).2 (m1 z hz)) k1.last c (.tail _ hc) (d1 c hc) h
  have t2s : t2 ∈ s1 := by
    have := k1.last
    rw [List.getLast_cons n1] at this
    rw [← this]; exact List.getLast_mem _
  have t1s : t1 ∈ s2 := by
    have := k2.last
    rw [List.getLast_cons n2] at this
    rw [← this]; exact List.getLast_mem _
  -- no corner stands twice
  have nd : (s1.reverse ++ s2.reverse).Nodup := by
    rw [List.nodup_append]
    refine ⟨?_, ?_, fun c hc d hd e => ?_⟩
    · exact List.pairwise_reverse.2 (so1.2.imp fun h e => by subst e; grind)
    · exact List.pairwise_reverse.2 (so2.2.imp fun h e => by subst e; grind)
    · subst e
      have hc := List.mem_reverse.1 hc
      have hd := List.mem_reverse.1 hd
      obtain ⟨pre, n, p, r, e⟩ := mid_of s1 c (.tail _ hc) (d1 c hc) k1.last (d2 c hd)
      have := o1 c hd (d1 c hc)
      rw [e] at this
      have : 0 < cr c n c := (AllE.drop pre this).1
      rw [cr_aa] at this
      grind
  have A1 : AllE (fun a b => ∀ c ∈ s1.reverse ++ s2.reverse, c = a ∨ c = b ∨ 0 < cr a b c) (t1 :: s1) := AllE.all _ fun c hc => by
    rcases List.mem_append.1 hc with hc | hc
    · exact Good.str _ g1 c (.tail _ (List.mem_reverse.1 hc))
    · by_cases e : c = t1
      · subst e; exact Good.str _ g1 c (.head _)
      · exact AllE.imp (fun a b h => .inr (.inr h)) _ (o1 c (List.mem_reverse.1 hc) e)
  have A2 : AllE (fun a b => ∀ c ∈ s1.reverse ++ s2.reverse, c = a ∨ c = b ∨ 0 < cr a b c) (t2 :: s2) := AllE.all _ fun c hc => by
    rcases List.mem_append.1 hc with hc | hc
    · by_cases e : c = t2
      · subst e; exact Good.str _ g2 c (.head _)
      · exact AllE.imp (fun a b h => .inr (.inr h)) _ (o2 c (List.mem_reverse.1 hc) e)
    · exact Good.str _ g2 c (.tail _ (List.mem_reverse.1 hc))
  have B1 : AllE (fun a b => ∀ q ∈ t2 :: l, 0 ≤ cr a b q) (t1 :: s1) := AllE.imp (fun a b h q hq => h.2 q ((q1 q).2 hq)) _ (Good.edges _ g1)
  have B2 : AllE (fun a b => ∀ q ∈ t2 :: l, 0 ≤ cr a b q) (t2 :: s2) := AllE.imp (fun a b h q hq => h.2 q ((q2 q).2 hq)) _ (Good.edges _ g2)
  -- neighbours around
  obtain ⟨z1, r1⟩ : ∃ z1, s1.reverse = t2 :: z1 := by
    have := k1.last
    rw [List.getLast_cons n1] at this
    cases h : s1.reverse with
    | nil => simp at h; exact absurd h n1
    | cons z zs =>
      have h' : s1 = (z :: zs).reverse := by rw [← h, List.reverse_reverse]
      subst h'
      simp at this
      exact ⟨zs, by rw [this]⟩
  obtain ⟨z2, r2⟩ : ∃ z2, s2.reverse = t1 :: z2 := by
    have := k2.last
    rw [List.getLast_cons n2] at this
    cases h : s2.reverse with
    | nil => simp at h; exact absurd h n2
    | cons z zs =>
      have h' : s2 = (z :: zs).reverse := by rw [← h, List.reverse_reverse]
      subst h'
      simp at this
      exact ⟨zs, by rw [this]⟩
  have around : ∀ P : V2 → V2 → Prop, AllE P (t1 :: s1) → AllE P (t2 :: s2) → ∀ (i : Nat) (a b : V2), (s1.reverse ++ s2.reverse)[i]? = some a → (s1.reverse ++ s2.reverse)[(i + 1) % (s1.reverse ++ s2.reverse).length]? = some b → P a b := by
    intro P h1 h2 i a b ha hb
    have h1 := AllE.rev _ h1
    have h2 := AllE.rev _ h2
    rw [List.reverse_cons] at h1 h2
    rw [r2, List.cons_append] at h2
    have h3 := AllF.app t1 (z2 ++ [t2]) s1.reverse h1 h2
    have e3 : s1.reverse ++ t1 :: (z2 ++ [t2]) = (s1.reverse ++ s2.reverse) ++ [t2] := by rw [r2]; simp
    rw [e3] at h3
    have hi : i < (s1.reverse ++ s2.reverse).length := (List.getElem?_eq_some_iff.1 ha).1
    refine AllF.at_ i h3 (by rw [List.getElem?_append_left hi]; exact ha) ?_
    rcases Nat.lt_or_ge (i + 1) (s1.reverse ++ s2.reverse).length with h | h
    · rw [Nat.mod_eq_of_lt h] at hb
      rw [List.getElem?_append_left h]; exact hb
    · have hi1 : i + 1 = (s1.reverse ++ s2.reverse).length := by omega
      rw [hi1, Nat.mod_self, r1] at hb
      rw [hi1, List.getElem?_append_right (Nat.le_refl _)]
      simpa using hb
  rw [ho]
  refine ⟨⟨?_, ?_⟩, ?_, ?_⟩
  · simp only [List.length_append, List.length_reverse]
    have l1 : 0 < s1.length := List.length_pos_iff.2 n1
    have l2 : 0 < s2.length := List.length_pos_iff.2 n2
    rcases Nat.lt_or_ge 2 (s1.length + s2.length) with h | h
    · omega
    · exfalso
      obtain ⟨u1, rfl⟩ := List.length_eq_one_iff.1 (show s1.length = 1 by omega)
      obtain ⟨u2, rfl⟩ := List.length_eq_one_iff.1 (show s2.length = 1 by omega)
      simp at t2s t1s
      subst t2s; subst t1s
      have hz : ∀ q ∈ t2 :: l, cr t2 t1 q = 0 := fun q hq => by
        have a1 := B1.1 q hq
        have a2 := B2.1 q hq
        have : cr t2 t1 q = - cr t1 t2 q := by unfold cr; grind
        grind
      have hd := g1.1
      obtain ⟨a, ha, b, hb, c, hc, h0⟩ := hn
      apply h0
      have e : cr a b c * (lin f t1 - lin f t2) = (cr t2 t1 c - cr t2 t1 a) * (lin f b - lin f a) - (cr t2 t1 b - cr t2 t1 a) * (lin f c - lin f a) := by unfold cr lin; grind
      rw [hz a ha, hz b hb, hz c hc] at e
      have e' : cr a b c * (lin f t1 - lin f t2) = 0 := by rw [e]; grind
      rcases Rat.mul_eq_zero.1 e' with h | h
      · exact h
      · grind
  · intro i j a b c ha hb hc hji hj1
    have h := around _ A1 A2 i a b ha hb c (List.mem_of_getElem? hc)
    have hi : i < (s1.reverse ++ s2.reverse).length := (List.getElem?_eq_some_iff.1 ha).1
    have hj : j < (s1.reverse ++ s2.reverse).length := (List.getElem?_eq_some_iff.1 hc).1
    rcases h with h | h | h
    · subst h
      exact absurd ((List.getElem?_inj hj nd).1 (by rw [hc, ha])) hji
    · subst h
      exact absurd ((List.getElem?_inj hj nd).1 (by rw [hc, hb])) hj1
    · exact h
  · intro c hc
    rcases List.mem_append.1 hc with hc | hc
    · exact m1 c (.tail _ (List.mem_reverse.1 hc))
    · exact m2 c (.tail _ (List.mem_reverse.1 hc))
  · intro i a b ha hb
    exact around _ B1 B2 i a b ha hb

/-! ### points in order -/
def ltV (a b : V2) : Prop := a.1 < b.1 ∨ (a.1 = b.1 ∧ a.2 < b.2)
instance (a b : V2) : Decidable (ltV a b) := by unfold ltV; infer_instance
theorem ltV_irr (a : V2) : ¬ ltV a a := by unfold ltV; grind
theorem ltV_trans {a b c : V2} (h : ltV a b) (g : ltV b c) : ltV a c := by unfold ltV at *; grind
theorem ltV_tri (a b : V2) : ltV a b ∨ a = b ∨ ltV b a := by
  unfold ltV
  rcases tri a.1 b.1 with h | h | h
  · exact .inl (.inl h)
  · rcases tri a.2 b.2 with g | g | g
    · exact .inl (.inr ⟨h, g⟩)
    · exact .inr (.inl (Prod.ext h g))
    · exact .inr (.inr (.inr ⟨h.symm, g⟩))
  · exact .inr (.inr (.inl h))
/-- a direction that puts two points in their order -/
theorem tilt2 {a b : V2} (h : ltV a b) : ∃ e : Rat, 0 < e ∧ ∀ d : Rat, 0 < d → d ≤ e → lin (1, d) a < lin (1, d) b := by
  unfold lin
  rcases h with h | ⟨h, g⟩
  · rcases tri a.2 b.2 with g | g | g
    · refine ⟨1, by decide, fun d h0 h1 => ?_⟩
      have := Rat.mul_pos h0 (show 0 < b.2 - a.2 by grind)
      grind
    · refine ⟨1, by decide, fun d h0 h1 => ?_⟩
      have : d * a.2 = d * b.2 := by rw [g]
      grind
    · have hx : 0 < b.1 - a.1 := by grind
      have hy : 0 < 2 * (a.2 - b.2) := by grind
      refine ⟨(b.1 - a.1) / (2 * (a.2 - b.2)), pos_of_mul (by rw [Rat.div_mul_cancel (by grind)]; exact hx) hy, fun d h0 h1 => ?_⟩
      have h2 := Rat.mul_le_mul_of_nonneg_right h1 (Rat.le_of_lt hy)
      rw [Rat.div_mul_cancel (by grind)] at h2
      grind
  · refine ⟨1, by decide, fun d h0 h1 => ?_⟩
    have := Rat.mul_pos h0 (show 0 < b.2 - a.2 by grind)
    grind
theorem tilt1 (a : V2) : ∀ l : List V2, (∀ b ∈ l, ltV a b) → ∃ e : Rat, 0 < e ∧ ∀ d : Rat, 0 < d → d ≤ e → ∀ b ∈ l, lin (1, d) a < lin (1, d) b
  | [], _ => ⟨1, by decide, by simp⟩
  | b :: l, h => by
    obtain ⟨e1, p1, q1⟩ := tilt2 (h b (.head _))
    obtain ⟨e2, p2, q2⟩ := tilt1 a l fun b hb => h b (.tail _ hb)
    rcases (Rat.le_total : e1 ≤ e2 ∨ e2 ≤ e1) with g | g
    · refine ⟨e1, p1, fun d h0 h1 x hx => ?_⟩
      rcases List.mem_cons.1 hx with rfl | hx
      · exact q1 d h0 h1
      · exact q2 d h0 (Rat.le_trans h1 g) x hx
    · refine ⟨e2, p2, fun d h0 h1 x hx => ?_⟩
      rcases List.mem_cons.1 hx with rfl | hx
      · exact q1 d h0 (Rat.le_trans h1 g)
      · exact q2 d h0 h1 x hx
theorem tilt : ∀ l : List V2, l.Pairwise ltV → ∃ e : Rat, 0 < e ∧ ∀ d : Rat, 0 < d → d ≤ e → l.Pairwise (fun a b => lin (1, d) a < lin (1, d) b)
  | [], _ => ⟨1, by decide, fun _ _ _ => .nil⟩
  | a :: l, h => by
    have h' := List.pairwise_cons.1 h
    obtain ⟨e1, p1, q1⟩ := tilt1 a l h'.1
    obtain ⟨e2, p2, q2⟩ := tilt l h'.2
    rcases (Rat.le_total : e1 ≤ e2 ∨ e2 ≤ e1) with g | g
    · exact ⟨e1, p1, fun d h0 h1 => .cons (q1 d h0 h1) (q2 d h0 (Rat.le_trans h1 g))⟩
    · exact ⟨e2, p2, fun d h0 h1 => .cons (q1 d h0 (Rat.le_trans h1 g)) (q2 d h0 h1)⟩
/-- what is left of points in order, where those that stand twice are struck -/
def once (a : V2) : List V2 → List V2
  | [] => [a]
  | b :: r => if b = a then once a r else a :: once b r
theorem once_mem : ∀ (r : List V2) (a x : V2), x ∈ once a r ↔ x ∈ a :: r
  | [], a, x => Iff.rfl
  | b :: r, a, x => by
    unfold once
    split
    · rename_i h; subst h; rw [once_mem r b x]; simp
    · rw [List.mem_cons, once_mem r b x, List.mem_cons (l := b :: r)]
theorem once_sorted : ∀ (r : List V2) (a : V2), (a :: r).Pairwise (fun x y => ¬ ltV y x) → (once a r).Pairwise ltV
  | [], a, _ => by simp [once]
  | b :: r, a, h => by
    have h1 := List.pairwise_cons.1 h
    have h2 := List.pairwise_cons.1 h1.2
    unfold once
    split
    · rename_i e; subst e
      exact once_sorted r b h1.2
    · rename_i e
      refine .cons (fun x hx => ?_) (once_sorted r b h1.2)
      have hab : ltV a b := by
        rcases ltV_tri a b with g | g | g
        · exact g
        · exact absurd g.symm e
        · exact absurd g (h1.1 b (.head _))
      rcases List.mem_cons.1 ((once_mem r b x).1 hx) with rfl | hx
      · exact hab
      · rcases ltV_tri b x with g | g | g
        · exact ltV_trans hab g
        · rw [← g]; exact hab
        · exact absurd g (h2.1 x hx)
def leB (x y : V2) : Bool := !decide (ltV y x)
def sortV (l : List V2) : List V2 := l.mergeSort leB
theorem sortV_perm (l : List V2) : (sortV l).Perm l := List.mergeSort_perm l leB
theorem sortV_sorted (l : List V2) : (sortV l).Pairwise (fun x y => ¬ ltV y x) := by
  refine (List.pairwise_mergeSort (le := leB) (fun a b c h1 h2 => ?_) (fun a b => ?_) l).imp fun h => by simpa [leB] using h
  · simp only [leB, Bool.not_eq_true', decide_eq_false_iff_not] at *
    intro h3
    rcases ltV_tri b c with g | g | g
    · exact h1 (ltV_trans g h3)
    · subst g; exact h1 h3
    · exact h2 g
  · simp only [leB, Bool.or_eq_true, Bool.not_eq_true', decide_eq_false_iff_not]
    rcases ltV_tri a b with g | g | g
    · exact .inl fun h => ltV_irr _ (ltV_trans g h)
    · subst g; exact .inl (ltV_irr _)
    · exact .inr fun h => ltV_irr _ (ltV_trans g h)
/-- points in order, each once -/
def setV (l : List V2) : List V2 := match sortV l with
  | [] => []
  | a :: r => once a r
theorem setV_mem (l : List V2) (x : V2) : x ∈ setV l ↔ x ∈ l := by
  rw [← (sortV_perm l).mem_iff]
  unfold setV
  cases h : sortV l with
  | nil => exact Iff.rfl
  | cons a r => exact once_mem r a x
theorem setV_sorted (l : List V2) : (setV l).Pairwise ltV := by
  have := sortV_sorted l
  unfold setV
  cases h : sortV l with
  | nil => exact .nil
  | cons a r => rw [h] at this; exact once_sorted r a this
def hullOf (l : List V2) : List V2 := hullP (setV l)
theorem hullOf_ok {l : List V2} (hn : ∃ a ∈ l, ∃ b ∈ l, ∃ c ∈ l, cr a b c ≠ 0) :
    Cvx (hullOf l) ∧ (∀ c ∈ hullOf l, c ∈ l) ∧ (∀ (i : Nat) (a b : V2), (hullOf l)[i]? = some a → (hullOf l)[(i + 1) % (hullOf l).length]? = some b → ∀ q ∈ l, 0 ≤ cr a b q) ∧ 3 ≤ (setV l).length := by
  obtain ⟨e, e0, he⟩ := tilt (setV l) (setV_sorted l)
  have hw := he e e0 Rat.le_refl
  obtain ⟨a, ha, b, hb, c, hc, h0⟩ := hn
  have hn' : ∃ a ∈ setV l, ∃ b ∈ setV l, ∃ c ∈ setV l, cr a b c ≠ 0 := ⟨a, (setV_mem l a).2 ha, b, (setV_mem l b).2 hb, c, (setV_mem l c).2 hc, h0⟩
  have h3 : 3 ≤ (setV l).length := by
    have h1 := hn'
    revert h1
    match setV l with
    | [] => intro h1; obtain ⟨a, ha, _⟩ := h1; simp at ha
    | [x] => 
      intro h1; obtain ⟨a, ha, b, hb, c, hc, h0⟩ := h1
      simp at ha hb hc; subst ha; subst hb; subst hc; exact absurd (by unfold cr; grind) h0
    | [x, y] =>
      intro h1; obtain ⟨a, ha, b, hb, c, hc, h0⟩ := h1
      simp at ha hb hc
      exfalso; apply h0
      rcases ha with rfl | rfl <;> rcases hb with rfl | rfl <;> rcases hc with rfl | rfl <;> unfold cr <;> grind
    | x :: y :: z :: r => intro _; simp
  unfold hullOf
  cases hs : setV l with
  | nil => rw [hs] at h3; simp at h3
  | cons x r =>
    rw [hs] at hw hn' h3
    have hr : r ≠ [] := by intro h; subst h; simp at h3
    obtain ⟨g1, g2, g3⟩ := hull_cvx hw hr hn'
    refine ⟨g1, fun c hc => (setV_mem l c).1 (hs ▸ g2 c hc), fun i a b h1 h2 q hq => g3 i a b h1 h2 q (hs ▸ (setV_mem l q).2 hq), h3⟩

/-! ### positions within a tolerance -/
def vadd (v d : V2) : V2 := (v.1 + d.1, v.2 + d.2)
def sqC (t : Rat) : List V2 := [(t, t), (t, -t), (-t, t), (-t, -t)]
def looseV (t : Rat) (l : List V2) : List V2 := l.flatMap fun v => (sqC t).map (vadd v)
theorem looseV_mem {t : Rat} {l : List V2} {x : V2} : x ∈ looseV t l ↔ ∃ v ∈ l, ∃ e ∈ sqC t, x = vadd v e := by
  unfold looseV
  simp only [List.mem_flatMap, List.mem_map]
  constructor
  · rintro ⟨v, hv, e, he, rfl⟩; exact ⟨v, hv, e, he, rfl⟩
  · rintro ⟨v, hv, e, he, rfl⟩; exact ⟨v, hv, e, he, rfl⟩
theorem cr_vadd (a b c e : V2) : cr (vadd a e) (vadd b e) (vadd c e) = cr a b c := by unfold cr vadd; grind
theorem Cvx.tri {l : List V2} (h : Cvx l) : ∃ a ∈ l, ∃ b ∈ l, ∃ c ∈ l, 0 < cr a b c := by
  have h3 := h.three
  refine ⟨l[0], List.getElem_mem _, l[1], List.getElem_mem _, l[2], List.getElem_mem _, ?_⟩
  exact h.edge 0 2 _ _ _ (by simp) (by rw [Nat.mod_eq_of_lt (by omega)]; simp) (by simp) (by omega) (by rw [Nat.mod_eq_of_lt (by omega)]; omega)
theorem loose_tri {t : Rat} {l : List V2} (h : Cvx l) : ∃ a ∈ looseV t l, ∃ b ∈ looseV t l, ∃ c ∈ looseV t l, cr a b c ≠ 0 := by
  obtain ⟨a, ha, b, hb, c, hc, h0⟩ := h.tri
  have he : (t, t) ∈ sqC t := by simp [sqC]
  refine ⟨_, looseV_mem.2 ⟨a, ha, _, he, rfl⟩, _, looseV_mem.2 ⟨b, hb, _, he, rfl⟩, _, looseV_mem.2 ⟨c, hc, _, he, rfl⟩, ?_⟩
  rw [cr_vadd]; grind
/-- a point is not outside of a polygon -/
def Ins (l : List V2) (p : V2) : Prop := ∀ (i : Nat) (a b : V2), l[i]? = some a → l[(i + 1) % l.length]? = some b → 0 ≤ cr a b p
theorem loose_ins {t dx dy : Rat} {l : List V2} (h : Cvx l) (h1 : -t ≤ dx) (h2 : dx ≤ t) (h3 : -t ≤ dy) (h4 : dy ≤ t) {v : V2} (hv : v ∈ l) : Ins (hullOf (looseV t l)) (vadd v (dx, dy)) := by
  intro i a b ha hb
  have hH := (hullOf_ok (loose_tri (t := t) h)).2.2.1 i a b ha hb
  have k1 := hH _ (looseV_mem.2 ⟨v, hv, (t, t), by simp [sqC], rfl⟩)
  have k2 := hH _ (looseV_mem.2 ⟨v, hv, (t, -t), by simp [sqC], rfl⟩)
  have k3 := hH _ (looseV_mem.2 ⟨v, hv, (-t, t), by simp [sqC], rfl⟩)
  have k4 := hH _ (looseV_mem.2 ⟨v, hv, (-t, -t), by simp [sqC], rfl⟩)
  have e : ∀ x y : Rat, cr a b (vadd v (x, y)) = cr a b v + (b.1 - a.1) * y - (b.2 - a.2) * x := fun x y => by unfold cr vadd; grind
  rw [e] at k1 k2 k3 k4 ⊢
  rcases (Rat.le_total : 0 ≤ b.1 - a.1 ∨ b.1 - a.1 ≤ 0) with g1 | g1 <;> rcases (Rat.le_total : 0 ≤ b.2 - a.2 ∨ b.2 - a.2 ≤ 0) with g2 | g2
  · have := Rat.mul_nonneg g1 (show 0 ≤ dy + t by grind)
    have := Rat.mul_nonneg g2 (show 0 ≤ t - dx by grind)
    grind
  · have := Rat.mul_nonneg g1 (show 0 ≤ dy + t by grind)
    have := Rat.mul_nonneg (show 0 ≤ -(b.2 - a.2) by grind) (show 0 ≤ dx + t by grind)
    grind
  · have := Rat.mul_nonneg (show 0 ≤ -(b.1 - a.1) by grind) (show 0 ≤ t - dy by grind)
    have := Rat.mul_nonneg g2 (show 0 ≤ t - dx by grind)
    grind
  · have := Rat.mul_nonneg (show 0 ≤ -(b.1 - a.1) by grind) (show 0 ≤ t - dy by grind)
    have := Rat.mul_nonneg (show 0 ≤ -(b.2 - a.2) by grind) (show 0 ≤ dx + t by grind)
    grind
theorem push_len : ∀ (s : List V2) (p : V2), (pushR s p).length ≤ s.length + 1
  | [], p => by simp [pushR]
  | [t], p => by simp [pushR]
  | t :: u :: r, p => by
    unfold pushR
    split
    · have := push_len (u :: r) p
      simp at *; omega
    · simp
theorem fold_len : ∀ (l s : List V2), (l.foldl pushR s).length ≤ s.length + l.length
  | [], s => by simp
  | p :: l, s => by
    have := fold_len l (pushR s p)
    have := push_len s p
    simp at *; omega
theorem once_len : ∀ (r : List V2) (a : V2), (once a r).length ≤ r.length + 1
  | [], a => by simp [once]
  | b :: r, a => by
    unfold once
    split
    · have := once_len r a; simp; omega
    · have := once_len r b; simp; omega
theorem setV_len (l : List V2) : (setV l).length ≤ l.length := by
  have e := (sortV_perm l).length_eq
  unfold setV
  cases h : sortV l with
  | nil => simp
  | cons a r => have := once_len r a; rw [h] at e; simp at e ⊢; omega
theorem hullP_len (l : List V2) : (hullP l).length ≤ 2 * l.length := by
  have h1 := fold_len l []
  have h2 := fold_len l.reverse []
  unfold hullP
  simp at *; omega
theorem hullOf_len (l : List V2) : (hullOf l).length ≤ 2 * l.length := Nat.le_trans (hullP_len _) (Nat.mul_le_mul_left _ (setV_len l))
theorem looseV_len (t : Rat) : ∀ l : List V2, (looseV t l).length = 4 * l.length
  | [] => rfl
  | v :: l => by
    have := looseV_len t l
    unfold looseV at *
    simp [sqC] at *; omega
/-! ### beyond an edge -/
def Bey (a b : List V2) : Prop := ∃ (i : Nat) (p q : V2), a[i]? = some p ∧ a[(i + 1) % a.length]? = some q ∧ ∀ x ∈ b, cr p q x < 0
theorem find_turn (s : Nat → Rat) : ∀ (n : Nat), 0 ≤ s 1 → s (n + 2) ≤ 0 → ∃ i, 1 ≤ i ∧ i ≤ n + 1 ∧ 0 ≤ s i ∧ s (i + 1) ≤ 0
  | 0, h1, h2 => ⟨1, by omega, by omega, h1, h2⟩
  | n + 1, h1, h2 => by
    rcases (Rat.le_total : 0 ≤ s (n + 2) ∨ s (n + 2) ≤ 0) with h | h
    · exact ⟨n + 2, by omega, by omega, h, h2⟩
    · obtain ⟨i, a, b, c, d⟩ := find_turn s n h1 h
      exact ⟨i, a, by omega, c, d⟩
theorem ins_fun {l : List V2} (h : Cvx l) {p u v : V2} (hp : Ins l p) (hl : ∀ x ∈ l, cr u v x < 0) : cr u v p < 0 := by
  have h3 := h.three
  obtain ⟨n, hn⟩ : ∃ n, l.length = n + 3 := ⟨l.length - 3, by omega⟩
  have at_ : ∀ i, i < l.length → l[i]? = some (l[i]?.getD (0, 0)) := fun i hi => by simp [hi]
  let P := fun i : Nat => l[i]?.getD (0, 0)
  have hP : ∀ i, i < l.length → l[i]? = some (P i) := at_
  obtain ⟨i, i1, i2, s1, s2⟩ := find_turn (fun i => cr (P 0) (P i) p) n (hp 0 _ _ (hP 0 (by omega)) (by rw [Nat.mod_eq_of_lt (by omega)]; exact hP 1 (by omega)))
    (by
      have := hp (n + 2) _ _ (hP _ (by omega)) (by rw [show n + 2 + 1 = l.length by omega, Nat.mod_self]; exact hP 0 (by omega))
      have e := cr_anti (P 0) (P (n + 2)) p
      have e2 : cr (P (n + 2)) (P 0) p = cr (P 0) p (P (n + 2)) := by unfold cr; grind
      show cr (P 0) (P (n + 2)) p ≤ 0
      grind)
  have T := h.edge i 0 _ _ _ (hP i (by omega)) (by rw [Nat.mod_eq_of_lt (by omega)]; exact hP (i + 1) (by omega)) (hP 0 (by omega)) (by omega) (by rw [Nat.mod_eq_of_lt (by omega)]; omega)
  have w0 := hp i _ _ (hP i (by omega)) (by rw [Nat.mod_eq_of_lt (by omega)]; exact hP (i + 1) (by omega))
  have g0 := hl (P 0) (List.mem_of_getElem? (hP 0 (by omega)))
  have g1 := hl (P i) (List.mem_of_getElem? (hP i (by omega)))
  have g2 := hl (P (i + 1)) (List.mem_of_getElem? (hP (i + 1) (by omega)))
  generalize P 0 = A at *
  generalize P i = B at *
  generalize P (i + 1) = C at *
  have s1 : 0 ≤ cr A B p := s1
  have s2 : 0 ≤ - cr A C p := by have : cr A C p ≤ 0 := s2; grind
  have e1 : cr B C A = cr B C p + - cr A C p + cr A B p := by unfold cr; grind
  have e2 : (- cr u v p) * cr B C A = cr B C p * (- cr u v A) + (- cr A C p) * (- cr u v B) + cr A B p * (- cr u v C) := by unfold cr; grind
  have m0 := Rat.mul_nonneg w0 (show 0 ≤ - cr u v A by grind)
  have m1 := Rat.mul_nonneg s2 (show 0 ≤ - cr u v B by grind)
  have m2 := Rat.mul_nonneg s1 (show 0 ≤ - cr u v C by grind)
  have pos : 0 < (- cr u v p) * cr B C A := by
    rcases le_cases w0 with a | a
    · have := Rat.mul_pos a (show 0 < - cr u v A by grind); grind
    · rcases le_cases s2 with b | b
      · have := Rat.mul_pos b (show 0 < - cr u v B by grind); grind
      · rcases le_cases s1 with c | c
        · have := Rat.mul_pos c (show 0 < - cr u v C by grind); grind
        · grind
  have := pos_of_mul pos T
  grind

theorem hull_ok {t : Rat} {l : List V2} (h : Cvx l) : Cvx (hullOf (looseV t l)) := (hullOf_ok (loose_tri (t := t) h)).1
theorem hull_mem {t : Rat} {l : List V2} (h : Cvx l) {c : V2} (hc : c ∈ hullOf (looseV t l)) : ∃ v ∈ l, ∃ e ∈ sqC t, c = vadd v e := looseV_mem.1 ((hullOf_ok (loose_tri (t := t) h)).2.1 c hc)
theorem hull_in {t : Rat} {l : List V2} (h : Cvx l) (ht : 0 ≤ t) {v : V2} (hv : v ∈ l) : Ins (hullOf (looseV t l)) v := by
  have := loose_ins (t := t) (dx := 0) (dy := 0) h (by grind) ht (by grind) ht hv
  have e : vadd v (0, 0) = v := by unfold vadd; exact Prod.ext (by grind) (by grind)
  rwa [e] at this
theorem Cvx.nodup {l : List V2} (h : Cvx l) {i j : Nat} {a : V2} (hi : l[i]? = some a) (hj : l[j]? = some a) : i = j := by
  have li : i < l.length := (List.getElem?_eq_some_iff.1 hi).1
  have lj : j < l.length := (List.getElem?_eq_some_iff.1 hj).1
  have h3 := h.three
  rcases Nat.lt_or_ge ((i + 1) % l.length) l.length with hn | hn
  · obtain ⟨b, hb⟩ : ∃ b, l[(i + 1) % l.length]? = some b := ⟨_, List.getElem?_eq_getElem hn⟩
    rcases Nat.decEq j i with hji | hji
    · exfalso
      rcases Nat.decEq j ((i + 1) % l.length) with hj1 | hj1
      · have := h.edge i j a b a hi hb hj hji hj1
        rw [cr_aa] at this; grind
      · -- the next corner equals this one
        have hab : b = a := by rw [hj1, hb] at hj; exact Option.some.inj hj
        subst hab
        obtain ⟨m, hm, hm1, hm2⟩ : ∃ m, m < l.length ∧ m ≠ i ∧ m ≠ (i + 1) % l.length := by
          have key : ∃ m, m < 3 ∧ m ≠ i ∧ m ≠ (i + 1) % l.length := by
            generalize (i + 1) % l.length = z
            by_cases h0 : 0 ≠ i ∧ 0 ≠ z
            · exact ⟨0, by omega, h0.1, h0.2⟩
            · by_cases h1 : 1 ≠ i ∧ 1 ≠ z
              · exact ⟨1, by omega, h1.1, h1.2⟩
              · exact ⟨2, by omega, by omega, by omega⟩
          obtain ⟨m, a1, a2, a3⟩ := key
          exact ⟨m, by omega, a2, a3⟩
        have := h.edge i m b b _ hi hb (List.getElem?_eq_getElem hm) hm1 hm2
        have e : cr b b (l[m]) = 0 := by unfold cr; grind
        rw [e] at this; grind
    · exact hji.symm
  · exact absurd (Nat.mod_lt (i + 1) (show 0 < l.length by omega)) (by omega)
/-- Where all corners are not to the right of a line through two corners, these two are neighbours. -/
theorem Cvx.next {l : List V2} (h : Cvx l) {i k : Nat} {v u : V2} (hv : l[i]? = some v) (hu : l[k]? = some u) (hne : u ≠ v) (hl : ∀ x ∈ l, 0 ≤ cr v u x) : k = (i + 1) % l.length := by
  have h3 := h.three
  have hn : (i + 1) % l.length < l.length := Nat.mod_lt _ (by omega)
  obtain ⟨s, hs⟩ : ∃ s, l[(i + 1) % l.length]? = some s := ⟨_, List.getElem?_eq_getElem hn⟩
  rcases Nat.decEq k ((i + 1) % l.length) with hk | hk
  · exfalso
    have hki : k ≠ i := by rintro rfl; rw [hv] at hu; exact hne (Option.some.inj hu).symm
    have a1 := h.edge i k v s u hv hs hu hki hk
    have a2 := hl s (List.mem_of_getElem? hs)
    have := cr_anti v s u
    grind
  · exact hk
/-- The hull of a convex polygon is the polygon, from another corner on. -/
theorem hull_edge {l : List V2} (h : Cvx l) {i : Nat} {v u : V2} (hv : l[i]? = some v) (hu : l[(i + 1) % l.length]? = some u) :
    ∃ j, (hullOf (looseV 0 l))[j]? = some v ∧ (hullOf (looseV 0 l))[(j + 1) % (hullOf (looseV 0 l)).length]? = some u := by
  have h3 := h.three
  have hz : ∀ x, x ∈ looseV 0 l ↔ x ∈ l := fun x => by
    rw [looseV_mem]
    have e : ∀ v : V2, ∀ e ∈ sqC 0, vadd v e = v := fun v e he => by
      simp only [sqC, List.mem_cons, List.not_mem_nil, or_false] at he
      have z : (-(0 : Rat)) = 0 := by grind
      rw [z] at he
      rcases he with rfl | rfl | rfl | rfl <;> exact Prod.ext (by simp [vadd, Rat.add_zero]) (by simp [vadd, Rat.add_zero])
    constructor
    · rintro ⟨v, hv, d, hd, rfl⟩; rw [e v d hd]; exact hv
    · intro hx; exact ⟨x, hx, (0, 0), by simp [sqC], (e x _ (by simp [sqC])).symm⟩
  obtain ⟨c1, c2, c3, _⟩ := hullOf_ok (loose_tri (t := 0) h)
  generalize hullOf (looseV 0 l) = H at *
  have H3 := c1.three
  -- each corner of the hull is followed by the next corner of the polygon
  have step : ∀ j : Nat, j < H.length → ∀ k, k < l.length → H[j]? = l[k]? → H[(j + 1) % H.length]? = l[(k + 1) % l.length]? := by
    intro j hj k hk e
    obtain ⟨a, ha⟩ : ∃ a, H[j]? = some a := ⟨_, List.getElem?_eq_getElem hj⟩
    have hn : (j + 1) % H.length < H.length := Nat.mod_lt _ (by omega)
    obtain ⟨b, hb⟩ : ∃ b, H[(j + 1) % H.length]? = some b := ⟨_, List.getElem?_eq_getElem hn⟩
    have hbl := (hz b).1 (c2 b (List.mem_of_getElem? hb))
    obtain ⟨m, hm⟩ := List.mem_iff_getElem?.1 hbl
    have hne : b ≠ a := by
      rintro rfl
      have := c1.nodup ha hb
      rcases Nat.lt_or_ge (j + 1) H.length with g | g
      · rw [Nat.mod_eq_of_lt g] at this; omega
      · have : j + 1 = H.length := by omega
        rw [this, Nat.mod_self] at hb
        have := c1.nodup ha hb
        omega
    have := h.next (e ▸ ha) hm hne (fun x hx => c3 j a b ha hb x ((hz x).2 hx))
    rw [hb, ← this, hm]
  obtain ⟨k0, hk0, e0⟩ : ∃ k0, k0 < l.length ∧ H[0]? = l[k0]? := by
    obtain ⟨a, ha⟩ : ∃ a, H[0]? = some a := ⟨_, List.getElem?_eq_getElem (show 0 < H.length by omega)⟩
    obtain ⟨m, hm⟩ := List.mem_iff_getElem?.1 ((hz a).1 (c2 a (List.mem_of_getElem? ha)))
    exact ⟨m, (List.getElem?_eq_some_iff.1 hm).1, by rw [ha, hm]⟩
  have all : ∀ j : Nat, H[j % H.length]? = l[(k0 + j) % l.length]? := by
    intro j
    induction j with
    | zero => rw [Nat.zero_mod, Nat.add_zero, Nat.mod_eq_of_lt hk0]; exact e0
    | succ j ih =>
      have := step _ (Nat.mod_lt j (show 0 < H.length by omega)) _ (Nat.mod_lt (k0 + j) (show 0 < l.length by omega)) ih
      rw [Nat.mod_add_mod, Nat.mod_add_mod] at this
      exact this
  have hi : i < l.length := (List.getElem?_eq_some_iff.1 hv).1
  refine ⟨(i + (l.length - k0)) % H.length, ?_, ?_⟩
  · rw [all, ← hv]
    congr 1
    rw [show k0 + (i + (l.length - k0)) = i + l.length by omega, Nat.add_mod_right, Nat.mod_eq_of_lt hi]
  · rw [Nat.mod_add_mod, all, ← hu]
    congr 1
    rw [show k0 + (i + (l.length - k0) + 1) = (i + 1) + l.length by omega, Nat.add_mod_right]

/-! ### a part clear of a wall -/
def rectV (x0 y0 x1 y1 : Rat) : List V2 := [(x0, y0), (x1, y0), (x1, y1), (x0, y1)]
/-- a rectangle lies beyond a line that is parallel to an axis -/
theorem rect_bey {x0 y0 x1 y1 : Rat} (hx : x0 < x1) (hy : y0 < y1) {l : List V2} {c : Rat} (h : (y1 < c ∧ ∀ p ∈ l, c ≤ p.2) ∨ (c < y0 ∧ ∀ p ∈ l, p.2 ≤ c) ∨ (x1 < c ∧ ∀ p ∈ l, c ≤ p.1) ∨ (c < x0 ∧ ∀ p ∈ l, p.1 ≤ c)) : Bey (rectV x0 y0 x1 y1) l := by
  rcases h with ⟨h1, h2⟩ | ⟨h1, h2⟩ | ⟨h1, h2⟩ | ⟨h1, h2⟩
  · refine ⟨2, (x1, y1), (x0, y1), rfl, rfl, fun p hp => ?_⟩
    have := h2 p hp
    have := Rat.mul_pos (show 0 < x1 - x0 by grind) (show 0 < p.2 - y1 by grind)
    unfold cr; grind
  · refine ⟨0, (x0, y0), (x1, y0), rfl, rfl, fun p hp => ?_⟩
    have := h2 p hp
    have := Rat.mul_pos (show 0 < x1 - x0 by grind) (show 0 < y0 - p.2 by grind)
    unfold cr; grind
  · refine ⟨1, (x1, y0), (x1, y1), rfl, rfl, fun p hp => ?_⟩
    have := h2 p hp
    have := Rat.mul_pos (show 0 < y1 - y0 by grind) (show 0 < p.1 - x1 by grind)
    unfold cr; grind
  · refine ⟨3, (x0, y1), (x0, y0), rfl, by simp [rectV], fun p hp => ?_⟩
    have := h2 p hp
    have := Rat.mul_pos (show 0 < y1 - y0 by grind) (show 0 < x0 - p.1 by grind)
    unfold cr; grind
theorem neg_of_mul {x y : Rat} (h : x * y < 0) (hy : 0 < y) : x < 0 := by
  have := pos_of_mul (x := -x) (y := y) (by grind) hy
  grind
/-- a direction along an axis: a wall beyond a line -/
theorem axis_bey {x0 y0 x1 y1 : Rat} (hx : x0 < x1) (hy : y0 < y1) {a b : V2} (hab : a ≠ b) (hax : b.1 = a.1 ∨ b.2 = a.2) {l : List V2} (hl : ∀ p ∈ l, 0 ≤ cr a b p) (hw : ∀ q ∈ rectV x0 y0 x1 y1, cr a b q < 0) : Bey (rectV x0 y0 x1 y1) l := by
  have w1 := hw (x0, y0) (by simp [rectV])
  have w2 := hw (x1, y1) (by simp [rectV])
  unfold cr at w1 w2
  simp only at w1 w2
  rcases hax with e | e
  · rw [e] at w1 w2
    rcases tri a.2 b.2 with g | g | g
    · -- upwards: the wall lies to the right
      refine rect_bey hx hy (c := a.1) (.inr (.inr (.inr ⟨?_, fun p hp => ?_⟩)))
      · have := neg_of_mul (x := a.1 - x0) (y := b.2 - a.2) (by grind) (by grind); grind
      · have h := hl p hp
        unfold cr at h; rw [e] at h
        have := nonneg_of_mul (x := a.1 - p.1) (y := b.2 - a.2) (by grind) (by grind); grind
    · exact absurd (Prod.ext e.symm g) hab
    · refine rect_bey hx hy (c := a.1) (.inr (.inr (.inl ⟨?_, fun p hp => ?_⟩)))
      · have := neg_of_mul (x := x1 - a.1) (y := a.2 - b.2) (by grind) (by grind); grind
      · have h := hl p hp
        unfold cr at h; rw [e] at h
        have := nonneg_of_mul (x := p.1 - a.1) (y := a.2 - b.2) (by grind) (by grind); grind
  · rw [e] at w1 w2
    rcases tri a.1 b.1 with g | g | g
    · refine rect_bey hx hy (c := a.2) (.inl ⟨?_, fun p hp => ?_⟩)
      · have := neg_of_mul (x := y1 - a.2) (y := b.1 - a.1) (by grind) (by grind); grind
      · have h := hl p hp
        unfold cr at h; rw [e] at h
        have := nonneg_of_mul (x := p.2 - a.2) (y := b.1 - a.1) (by grind) (by grind); grind
    · exact absurd (Prod.ext g e.symm) hab
    · refine rect_bey hx hy (c := a.2) (.inr (.inl ⟨?_, fun p hp => ?_⟩))
      · have := neg_of_mul (x := a.2 - y0) (y := a.1 - b.1) (by grind) (by grind); grind
      · have h := hl p hp
        unfold cr at h; rw [e] at h
        have := nonneg_of_mul (x := a.2 - p.2) (y := a.1 - b.1) (by grind) (by grind); grind
theorem edge_in {v u e q : V2} (h : cr (vadd v e) (vadd u e) q < 0) (hm : 0 ≤ cr (vadd v e) (vadd u e) (vadd v (-e.1, -e.2))) : cr v u q < 0 := by
  unfold cr vadd at h hm
  unfold cr
  simp only at h hm
  grind
theorem axis_of {t X Y : Rat} {e d : V2} (ht : 0 < t) (he : e ∈ sqC t) (hd : d ∈ sqC t) (hed : e ≠ d) (k1 : 0 ≤ X * (d.2 - e.2) - Y * (d.1 - e.1)) (k2 : 0 ≤ -(X * (d.2 - e.2) - Y * (d.1 - e.1)))
    (m : ∀ s ∈ sqC t, 0 ≤ X * (s.2 - e.2) - Y * (s.1 - e.1)) : X = 0 ∨ Y = 0 := by
  have m1 := m (t, t) (by simp [sqC])
  have m2 := m (t, -t) (by simp [sqC])
  have m3 := m (-t, t) (by simp [sqC])
  have m4 := m (-t, -t) (by simp [sqC])
  clear m
  have nz : X * t = 0 ∨ Y * t = 0 := by
    simp only [sqC, List.mem_cons, List.not_mem_nil, or_false] at he hd
    rcases he with rfl | rfl | rfl | rfl <;> rcases hd with rfl | rfl | rfl | rfl <;> simp only at k1 k2 m1 m2 m3 m4 <;>
      first
        | exact absurd rfl hed
        | (clear hed; left; grind)
        | (clear hed; right; grind)
  rcases nz with h | h
  · rcases Rat.mul_eq_zero.1 h with h | h
    · exact .inl h
    · grind
  · rcases Rat.mul_eq_zero.1 h with h | h
    · exact .inr h
    · grind
def Apt (a b : List V2) : Prop := Bey a b ∨ Bey b a
/-- Where a part, with its tolerance, is clear of a wall, it is so without it; both as it is placed and as its hull. -/
theorem clear_less {x0 y0 x1 y1 t : Rat} (hx : x0 < x1) (hy : y0 < y1) (ht : 0 ≤ t) {l : List V2} (h : Cvx l) (hA : Apt (hullOf (looseV t l)) (rectV x0 y0 x1 y1)) :
    Apt l (rectV x0 y0 x1 y1) ∧ Apt (hullOf (looseV 0 l)) (rectV x0 y0 x1 y1) := by
  have h0mem : ∀ c ∈ hullOf (looseV 0 l), c ∈ l := fun c hc => by
    obtain ⟨v, hv, e, he, rfl⟩ := hull_mem h hc
    have z : (-(0 : Rat)) = 0 := by grind
    simp only [sqC, List.mem_cons, List.not_mem_nil, or_false, z] at he
    have : vadd v e = v := by rcases he with rfl | rfl | rfl | rfl <;> exact Prod.ext (by simp [vadd, Rat.add_zero]) (by simp [vadd, Rat.add_zero])
    rw [this]; exact hv
  have both : Bey (rectV x0 y0 x1 y1) l → Apt l (rectV x0 y0 x1 y1) ∧ Apt (hullOf (looseV 0 l)) (rectV x0 y0 x1 y1) := fun g => by
    refine ⟨.inr g, .inr ?_⟩
    obtain ⟨i, p, q, a1, a2, a3⟩ := g
    exact ⟨i, p, q, a1, a2, fun x hx => a3 x (h0mem x hx)⟩
  rcases hA with ⟨i, a, b, ha, hb, hq⟩ | ⟨i, a, b, ha, hb, hq⟩
  · obtain ⟨c1, c2, c3, _⟩ := hullOf_ok (loose_tri (t := t) h)
    have hin := c3 i a b ha hb
    have hab : a ≠ b := by
      rintro rfl
      have := hq _ (show (x0, y0) ∈ rectV x0 y0 x1 y1 by simp [rectV])
      have e : cr a a (x0, y0) = 0 := by unfold cr; grind
      rw [e] at this; grind
    obtain ⟨v, hv, e, he, rfl⟩ := looseV_mem.1 (c2 _ (List.mem_of_getElem? ha))
    obtain ⟨u, hu, d, hd, rfl⟩ := looseV_mem.1 (c2 _ (List.mem_of_getElem? hb))
    have inl : ∀ p ∈ l, 0 ≤ cr (vadd v e) (vadd u d) p := fun p hp => hull_in h ht hp i _ _ ha hb
    by_cases hed : e = d
    · subst hed
      -- an edge of the polygon
      have hne : u ≠ v := by rintro rfl; exact hab rfl
      have hall : ∀ x ∈ l, 0 ≤ cr v u x := fun x hx => by
        have := hin _ (looseV_mem.2 ⟨x, hx, e, he, rfl⟩)
        rwa [cr_vadd] at this
      obtain ⟨iv, hiv⟩ := List.mem_iff_getElem?.1 hv
      obtain ⟨iu, hiu⟩ := List.mem_iff_getElem?.1 hu
      have hnx := h.next hiv hiu hne hall
      subst hnx
      have hneg : (-e.1, -e.2) ∈ sqC t := by
        simp only [sqC, List.mem_cons, List.not_mem_nil, or_false] at he ⊢
        rcases he with rfl | rfl | rfl | rfl <;> simp
      have hmax := hin _ (looseV_mem.2 ⟨v, hv, _, hneg, rfl⟩)
      have hW : ∀ q ∈ rectV x0 y0 x1 y1, cr v u q < 0 := fun q hqm => by
        have := hq q hqm
        exact edge_in this hmax
      refine ⟨.inl ⟨iv, v, u, hiv, hiu, hW⟩, .inl ?_⟩
      obtain ⟨j, j1, j2⟩ := hull_edge h hiv hiu
      exact ⟨j, v, u, j1, j2, hW⟩
    · -- an edge of the tolerance: along an axis
      apply both
      have k1 := hin _ (looseV_mem.2 ⟨v, hv, d, hd, rfl⟩)
      have k2 := hin _ (looseV_mem.2 ⟨u, hu, e, he, rfl⟩)
      have tp : 0 < t := by
        rcases le_cases ht with g | g
        · exact g
        · exfalso
          subst g
          have z : (-(0 : Rat)) = 0 := by grind
          simp only [sqC, List.mem_cons, List.not_mem_nil, or_false, z] at he hd
          apply hed
          rcases he with rfl | rfl | rfl | rfl <;> rcases hd with rfl | rfl | rfl | rfl <;> rfl
      have f1 : ∀ s : V2, cr (vadd v e) (vadd u d) (vadd v s) = ((vadd u d).1 - (vadd v e).1) * (s.2 - e.2) - ((vadd u d).2 - (vadd v e).2) * (s.1 - e.1) := fun s => by unfold cr vadd; grind
      have f2 : cr (vadd v e) (vadd u d) (vadd u e) = -(((vadd u d).1 - (vadd v e).1) * (d.2 - e.2) - ((vadd u d).2 - (vadd v e).2) * (d.1 - e.1)) := by unfold cr vadd; grind
      have hax : (vadd u d).1 = (vadd v e).1 ∨ (vadd u d).2 = (vadd v e).2 := by
        rcases axis_of tp he hd hed (by rw [← f1]; exact k1) (by rw [← f2]; exact k2) (fun s hs => by rw [← f1]; exact hin _ (looseV_mem.2 ⟨v, hv, s, hs, rfl⟩)) with g | g
        · left; clear f1 f2 hin hq inl k1 k2 c1 c2 c3; grind
        · right; clear f1 f2 hin hq inl k1 k2 c1 c2 c3; grind
      exact axis_bey hx hy hab hax inl hq
  · exact both ⟨i, a, b, ha, hb, fun p hp => ins_fun (hull_ok h) (hull_in h ht hp) hq⟩

/-! ### distances -/
def dot (a b : V2) : Rat := a.1 * b.1 + a.2 * b.2
def vsub (a b : V2) : V2 := (a.1 - b.1, a.2 - b.2)
def cross (a b : V2) : Rat := a.1 * b.2 - a.2 * b.1
def toEdgeV (p a b : V2) : Rat :=
  if dot (vsub p a) (vsub b a) ≤ 0 then dot (vsub p a) (vsub p a)
  else if dot (vsub b a) (vsub b a) ≤ dot (vsub p a) (vsub b a) then dot (vsub p b) (vsub p b)
  else cross (vsub b a) (vsub p a) * cross (vsub b a) (vsub p a) / dot (vsub b a) (vsub b a)
theorem sq_pos {x : Rat} (h : x ≠ 0) : 0 < x * x := by
  rcases tri x 0 with g | g | g
  · have := Rat.mul_pos (show 0 < -x by grind) (show 0 < -x by grind); grind
  · exact absurd g h
  · exact Rat.mul_pos g g
theorem sq_nonneg (x : Rat) : 0 ≤ x * x := by
  by_cases h : x = 0
  · subst h; grind
  · exact Rat.le_of_lt (sq_pos h)
theorem dot_pos {p a : V2} (h : p ≠ a) : 0 < dot (vsub p a) (vsub p a) := by
  unfold dot vsub
  by_cases h1 : p.1 = a.1
  · have h2 : p.2 ≠ a.2 := fun e => h (Prod.ext h1 e)
    have := sq_pos (x := p.2 - a.2) (by grind)
    have := sq_nonneg (p.1 - a.1)
    grind
  · have := sq_pos (x := p.1 - a.1) (by grind)
    have := sq_nonneg (p.2 - a.2)
    grind
theorem toEdge_pos {u v p a b : V2} (hab : a ≠ b) (h : (0 ≤ cr u v p ∧ cr u v a < 0 ∧ cr u v b < 0) ∨ (cr u v p < 0 ∧ 0 ≤ cr u v a ∧ 0 ≤ cr u v b)) : 0 < toEdgeV p a b := by
  have hpa : p ≠ a := by rintro rfl; grind
  have hpb : p ≠ b := by rintro rfl; grind
  have hs := dot_pos (p := b) (a := a) (fun e => hab e.symm)
  unfold toEdgeV
  split
  · exact dot_pos hpa
  · split
    · exact dot_pos hpb
    · rename_i g1 g2
      refine pos_of_mul (y := dot (vsub b a) (vsub b a)) ?_ hs
      rw [Rat.div_mul_cancel (by grind)]
      apply sq_pos
      intro hc
      have e : cr u v p * dot (vsub b a) (vsub b a) = cr u v a * (dot (vsub b a) (vsub b a) - dot (vsub p a) (vsub b a)) + cr u v b * dot (vsub p a) (vsub b a) + cross (vsub b a) (vsub p a) * ((v.1 - u.1) * (b.1 - a.1) + (v.2 - u.2) * (b.2 - a.2)) := by
        unfold cr dot vsub cross; grind
      rw [hc] at e
      generalize dot (vsub b a) (vsub b a) = S at *
      generalize dot (vsub p a) (vsub b a) = T at *
      rcases h with ⟨k1, k2, k3⟩ | ⟨k1, k2, k3⟩
      · have := Rat.mul_nonneg k1 (Rat.le_of_lt hs)
        have := Rat.mul_pos (show 0 < - cr u v a by grind) (show 0 < S - T by grind)
        have := Rat.mul_pos (show 0 < - cr u v b by grind) (show 0 < T by grind)
        grind
      · have := Rat.mul_pos (show 0 < - cr u v p by grind) hs
        have := Rat.mul_nonneg k2 (show 0 ≤ S - T by grind)
        have := Rat.mul_nonneg k3 (show 0 ≤ T by grind)
        grind
theorem Cvx.ne_next {l : List V2} (h : Cvx l) {i : Nat} {a b : V2} (ha : l[i]? = some a) (hb : l[(i + 1) % l.length]? = some b) : a ≠ b := by
  rintro rfl
  have := h.nodup ha hb
  have h3 := h.three
  have hi : i < l.length := (List.getElem?_eq_some_iff.1 ha).1
  rcases Nat.lt_or_ge (i + 1) l.length with g | g
  · rw [Nat.mod_eq_of_lt g] at this; omega
  · rw [show i + 1 = l.length by omega, Nat.mod_self] at this; omega
/-- corners of a convex polygon are not to the right of its edges -/
theorem Cvx.ins {l : List V2} (h : Cvx l) {p : V2} (hp : p ∈ l) : Ins l p := by
  intro i a b ha hb
  obtain ⟨j, hj⟩ := List.mem_iff_getElem?.1 hp
  by_cases h1 : j = i
  · subst h1
    rw [ha] at hj; cases hj; rw [cr_aa]; exact Rat.le_refl
  · by_cases h2 : j = (i + 1) % l.length
    · subst h2
      rw [hb] at hj; cases hj; rw [cr_bb]; exact Rat.le_refl
    · exact Rat.le_of_lt (h.edge i j a b p ha hb hj h1 h2)
/-- Where two convex polygons are apart by an edge, each corner of one is away from each edge of the other. -/
theorem apt_pos {l m : List V2} (hl : Cvx l) (hm : Cvx m) (h : Apt l m) {p : V2} (hp : p ∈ l) {i : Nat} {a b : V2} (ha : m[i]? = some a) (hb : m[(i + 1) % m.length]? = some b) : 0 < toEdgeV p a b := by
  have am := List.mem_of_getElem? ha
  have bm := List.mem_of_getElem? hb
  rcases h with ⟨k, u, v, h1, h2, h3⟩ | ⟨k, u, v, h1, h2, h3⟩
  · exact toEdge_pos (hm.ne_next ha hb) (.inl ⟨hl.ins hp k u v h1 h2, h3 a am, h3 b bm⟩)
  · exact toEdge_pos (hm.ne_next ha hb) (.inr ⟨h3 p hp, hm.ins am k u v h1 h2, hm.ins bm k u v h1 h2⟩)
theorem Apt.symm {l m : List V2} (h : Apt l m) : Apt m l := h.elim .inr .inl
theorem rect_cvx {x0 y0 x1 y1 : Rat} (hx : x0 < x1) (hy : y0 < y1) : Cvx (rectV x0 y0 x1 y1) := by
  have h := Rat.mul_pos (show 0 < x1 - x0 by grind) (show 0 < y1 - y0 by grind)
  refine ⟨by simp [rectV], fun i j a b c ha hb hc h1 h2 => ?_⟩
  have hl : (rectV x0 y0 x1 y1).length = 4 := rfl
  rw [hl] at hb h2
  have hi : i < 4 := (List.getElem?_eq_some_iff.1 ha).1
  have hj : j < 4 := (List.getElem?_eq_some_iff.1 hc).1
  rcases (show i = 0 ∨ i = 1 ∨ i = 2 ∨ i = 3 by omega) with rfl | rfl | rfl | rfl <;> rcases (show j = 0 ∨ j = 1 ∨ j = 2 ∨ j = 3 by omega) with rfl | rfl | rfl | rfl <;>
    first
      | exact absurd rfl h1
      | exact absurd rfl h2
      | (simp [rectV] at ha hb hc; subst ha; subst hb; subst hc; unfold cr; grind)
end Go.Proofs.YtmfejdikfpckdaaGreatDoor.FitT
