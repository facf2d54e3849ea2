/- append from a source that may be nil, in a plain region and in one that draws its order. No program. · Rows of structs: read, owned. No program. -/
import Derived.Test.YthepafendopfhaaTl3
import Derived.Deep.RegionLaw
import Derived.Deep.DeepCutAuto
import Derived.Deep.Onto
namespace Go.Proofs.Ythepafendopfhaa
open Go.RowKit
set_option linter.unusedVariables false

/-- What is appended: nil, or m elements that lie somewhere. -/
def Src (w : World) (v : Value) (size m : Nat) (news : List Value) : Prop :=
  news.length = m * size ∧ ((v = .slice none 0 0 ∧ m = 0) ∨ ∃ b o c, v = .slice (some ⟨b, o, none⟩) m c ∧ ∀ (j : Nat) (u : Value), news[j]? = some u → w.cell? ⟨b, o + j, none⟩ = some u)
theorem Src.below {w w' : World} {v : Value} {size m : Nat} {news : List Value} {B : Nat} (h : Src w v size m news) (hb : Below B w w') (hv : ∀ b, v.ownBlock = some b → b < B) : Src w' v size m news := by
  obtain ⟨h1, h2⟩ := h
  refine ⟨h1, ?_⟩
  rcases h2 with h2 | ⟨b, o, c, rfl, hc⟩
  · exact .inl h2
  · exact .inr ⟨b, o, c, rfl, fun j u hu => (hb.cell (p := ⟨b, o + j, none⟩) (hv b rfl)).trans (hc j u hu)⟩
theorem Src.new {w : World} {g m c size : Nat} {t : TypeId} {cs : Array Value} (h : Blk w g t cs) (hl : cs.size = m * size) : Src w (.slice (some ⟨g, 0, none⟩) m c) size m cs.toList :=
  ⟨by simpa using hl, .inr ⟨g, 0, c, rfl, fun j u hu => by rw [Nat.zero_add, h.cell]; simpa using hu⟩⟩

section
variable {P : Program} (w : World)
theorem run_append_src (base : Nat) (t ty e : TypeId) (i : TypeInfo) (z : Value) (size bytes : Nat) (ht : P.underlying t = some (.slice e)) (hi : P.info? e = some i) (hz : i.zero = some z)
    (hsize : i.size = size) (hby : i.bytes = bytes) (hzs : z.cells.size = size) (hsz : 0 < size)
    (v : Value) (n : Nat) (xs : List Value) (hown : w.ownsRow base e size v n xs) (x : Value) (m : Nat) (news : List Value) (hx : Src w x size m news) (h1 : ∀ u ∈ news, u.oneCell' = true)
    (h63 : n + m ≤ maxLen) (hbytes : (n + m) * bytes ≤ 140737488355328) (hbase : base ≤ w.heap.size) :
    ∃ v' w', (Builtin.append_ #[t, t] ty #[v, x]).run P w = .ok v' w' ∧ w'.ownsRow base e size v' (n + m) (xs ++ news) ∧ w.grownBy w' v.ownBlock := by
  obtain ⟨hl, hs⟩ := hx
  rcases hs with ⟨rfl, rfl⟩ | ⟨b, o, c, rfl, hc⟩
  · have hn : news = [] := List.eq_nil_of_length_eq_zero (by simpa using hl)
    subst hn
    exact ⟨v, w, run_append_owned_none w base t ty e i size ht hi v n xs hown, by simpa using hown, World.grownBy.refl w _⟩
  · obtain ⟨v', w', h2, h3, h4, _⟩ := run_append_own (P := P) w base t ty e i z size bytes ht hi hz hsize hby hzs hsz v n xs hown ⟨b, o, none⟩ m c news hl (fun j u hu => by rw [Addr.add_lit]; exact hc j u hu) h1 h63 hbytes hbase
    exact ⟨v', w', h2, h3, h4⟩

theorem wp_append_src {o : Oper} {a : Act} {K : Act → World → Prop} {Q : Exit → Act → World → Prop} (s x : Operand) (t : TypeId)
    (ho : o.op = .call { callee := .builtin .append, args := #[s, x], argTypes := #[t, t] })
    (base : Nat) (e : TypeId) (i : TypeInfo) (z : Value) (size bytes : Nat) (ht : P.underlying t = some (.slice e)) (hi : P.info? e = some i) (hz : i.zero = some z)
    (hsize : i.size = size) (hby : i.bytes = bytes) (hzs : z.cells.size = size) (hsz : 0 < size)
    (v : Value) (n : Nat) (xs : List Value) (hs : a.eval s = v) (hown : w.ownsRow base e size v n xs) (m : Nat) (news : List Value) (y : Value) (hy : a.eval x = y) (hx : Src w y size m news) (h1 : ∀ u ∈ news, u.oneCell' = true)
    (h63 : n + m ≤ maxLen) (hbytes : (n + m) * bytes ≤ 140737488355328) (hbase : base ≤ w.heap.size)
    (h : ∀ v' w', w'.ownsRow base e size v' (n + m) (xs ++ news) → w.grownBy w' v.ownBlock → K (a.put o.dst v') w') : o.wp P a w K Q := by
  obtain ⟨v', w', hr, h2, h3⟩ := run_append_src (P := P) w base t o.type e i z size bytes ht hi hz hsize hby hzs hsz v n xs hown y m news hx h1 h63 hbytes hbase
  unfold Oper.wp execOp
  simp only [ho, resolve, invoke, builtin, Sem.run_bind, Sem.run_pure, Result.andThen_ok, List.map_toArray, List.map_cons, List.map_nil, hs, hy, hr]
  exact h v' w' h2 h3

theorem wpList_append_src {ops : Array Oper} {rest : List Oper} {o : Oper} {a : Act} {Q : Exit → Act → World → Prop} (hgd : o.guard = none) (s x : Operand) (t : TypeId)
    (ho : o.op = .call { callee := .builtin .append, args := #[s, x], argTypes := #[t, t] })
    (base : Nat) (e : TypeId) (i : TypeInfo) (z : Value) (size bytes : Nat) (ht : P.underlying t = some (.slice e)) (hi : P.info? e = some i) (hz : i.zero = some z)
    (hsize : i.size = size) (hby : i.bytes = bytes) (hzs : z.cells.size = size) (hsz : 0 < size)
    (v : Value) (n : Nat) (xs : List Value) (hs : a.eval s = v) (hown : w.ownsRow base e size v n xs) (m : Nat) (news : List Value) (y : Value) (hy : a.eval x = y) (hx : Src w y size m news) (h1 : ∀ u ∈ news, u.oneCell' = true)
    (h63 : n + m ≤ maxLen) (hbytes : (n + m) * bytes ≤ 140737488355328) (hbase : base ≤ w.heap.size)
    (h : ∀ v' w', w'.ownsRow base e size v' (n + m) (xs ++ news) → w.grownBy w' v.ownBlock → wpList P ops Q rest (a.put o.dst v') w') : wpList P ops Q (o :: rest) a w :=
  wpList_plain hgd fun _ hK => wp_append_src w s x t ho base e i z size bytes ht hi hz hsize hby hzs hsz v n xs hs hown m news y hy hx h1 h63 hbytes hbase fun v' w' h2 h3 => hK _ _ (h v' w' h2 h3)

theorem step_append_src {ops : Array Oper} {o : Oper} {a : Act} {K : Act → World → Prop} {Q : Exit → Act → World → Prop} {E : Prop} (hgd : o.guard = none) (s x : Operand) (t : TypeId)
    (ho : o.op = .call { callee := .builtin .append, args := #[s, x], argTypes := #[t, t] })
    (base : Nat) (e : TypeId) (i : TypeInfo) (z : Value) (size bytes : Nat) (ht : P.underlying t = some (.slice e)) (hi : P.info? e = some i) (hz : i.zero = some z)
    (hsize : i.size = size) (hby : i.bytes = bytes) (hzs : z.cells.size = size) (hsz : 0 < size)
    (v : Value) (n : Nat) (xs : List Value) (hs : a.eval s = v) (hown : w.ownsRow base e size v n xs) (m : Nat) (news : List Value) (y : Value) (hy : a.eval x = y) (hx : Src w y size m news) (h1 : ∀ u ∈ news, u.oneCell' = true)
    (h63 : n + m ≤ maxLen) (hbytes : (n + m) * bytes ≤ 140737488355328) (hbase : base ≤ w.heap.size)
    (h : ∀ v' w', w'.ownsRow base e size v' (n + m) (xs ++ news) → w.grownBy w' v.ownBlock → K (a.put o.dst v') w') :
    if Region.wanted o (yielded ops a.tmps) = true then Oper.wp P o a w K Q else E := by
  have hw : Region.wanted o (yielded ops a.tmps) = true := by simp [Region.wanted, hgd]
  rw [if_pos hw]
  exact wp_append_src w s x t ho base e i z size bytes ht hi hz hsize hby hzs hsz v n xs hs hown m news y hy hx h1 h63 hbytes hbase h
end

/-! An empty literal and a one-element literal, in whatever order they were made. -/
section
variable (w : World) (e t : TypeId) (size : Nat) (cs : Array Value)
theorem lit_a : (w.alloc (.cells #[] e)).drew.ownsRow w.heap.size e size (.slice (some ⟨w.heap.size, 0, none⟩) 0 0) 0 [] :=
  World.ownsRow_lit w #[] 0 (Nat.le_refl _) (by simp [maxLen]) (by simp)
theorem lit_b : ((w.alloc (.cells #[] e)).alloc (.cells cs t)).drew.ownsRow w.heap.size e size (.slice (some ⟨w.heap.size, 0, none⟩) 0 0) 0 [] :=
  (World.ownsRow_lit w #[] 0 (Nat.le_refl _) (by simp [maxLen]) (by simp)).alloc _
theorem lit_c : ((w.alloc (.cells cs t)).alloc (.cells #[] e)).drew.ownsRow w.heap.size e size (.slice (some ⟨w.heap.size + 1, 0, none⟩) 0 0) 0 [] := by
  have := World.ownsRow_lit (e := e) (base := w.heap.size) (size := size) (w.alloc (.cells cs t)) #[] 0 (by simp) (by simp [maxLen]) (by simp)
  simp only [World.size_alloc] at this
  exact this
theorem lit_below_a : Below w.heap.size w (w.alloc (.cells cs e)).drew := ((Below.refl _ _).alloc (Nat.le_refl _) _).drew
theorem lit_below_b (ds : Array Value) : Below w.heap.size w ((w.alloc (.cells cs e)).alloc (.cells ds t)).drew := (((Below.refl _ _).alloc (Nat.le_refl _) _).alloc (by simp) _).drew
theorem lit_blk_b (ds : Array Value) : Blk ((w.alloc (.cells cs e)).alloc (.cells ds t)).drew (w.heap.size + 1) t ds := by
  have := Blk.new (w.alloc (.cells cs e)) t ds
  simpa using this.drew
theorem lit_blk_c (ds : Array Value) : Blk ((w.alloc (.cells ds t)).alloc (.cells cs e)).drew w.heap.size t ds := ((Blk.new w t ds).alloc _).drew
end

theorem own_bel {w w' : World} {base : Nat} {e : TypeId} {size n : Nat} {v : Value} {xs : List Value} (h : w.ownsRow base e size v n xs) (hb : Below w.heap.size w w') : w'.ownsRow base e size v n xs := by
  refine ⟨h.1, ?_⟩
  rcases h.2 with hn | ⟨g, cap, cur, rfl, hbb, hg, rest⟩
  · exact .inl hn
  · exact .inr ⟨g, cap, cur, rfl, hbb, (hb.block g (Array.getElem?_eq_some_iff.1 hg).1).trans hg, rest⟩
theorem own_own_ne {w : World} {b1 b2 : Nat} {e1 e2 : TypeId} {s1 s2 n1 n2 : Nat} {v1 v2 : Value} {xs ys : List Value} (h1 : w.ownsRow b1 e1 s1 v1 n1 xs) (h2 : w.ownsRow b2 e2 s2 v2 n2 ys) (hne : e1 ≠ e2) : v1.ownBlock = none ∨ v1.ownBlock ≠ v2.ownBlock := by
  rcases h2.2 with ⟨rfl, _⟩ | ⟨g, cap, cur, rfl, _, hh, _⟩
  · cases h : v1.ownBlock
    · exact .inl rfl
    · exact .inr (by simp [Value.ownBlock])
  · exact .inr (own_blk_ne h1 hh hne)
end Go.Proofs.Ythepafendopfhaa

namespace Go.Proofs.Ythepafendopfhaa
open Go.RowKit
set_option linter.unusedVariables false

/-- A slice is nil or leads somewhere. -/
def WfS (A : Option Addr) (n c : Nat) : Prop := (A = none ∧ n = 0 ∧ c = 0) ∨ ∃ b o, A = some ⟨b, o, none⟩ ∧ n ≤ c
theorem WfS.le {A : Option Addr} {n c : Nat} (h : WfS A n c) : n ≤ c := by
  rcases h with ⟨_, h1, h2⟩ | ⟨_, _, _, h⟩ <;> omega
theorem WfS.own {w : World} {base : Nat} {e : TypeId} {size n c : Nat} {A : Option Addr} {xs : List Value} (h : w.ownsRow base e size (.slice A n c) n xs) : WfS A n c := by
  rcases h.2 with ⟨h1, h2⟩ | ⟨g, cap, cur, h1, _, _, h3, _⟩
  · cases h1; exact .inl ⟨rfl, rfl, rfl⟩
  · cases h1; exact .inr ⟨_, _, rfl, h3⟩
theorem Src.bel {w w' : World} {v : Value} {size m : Nat} {news : List Value} (h : Src w v size m news) (hb : Below w.heap.size w w') : Src w' v size m news := by
  obtain ⟨h1, h2⟩ := h
  refine ⟨h1, ?_⟩
  rcases h2 with h2 | ⟨b, o, c, rfl, hc⟩
  · exact .inl h2
  · exact .inr ⟨b, o, c, rfl, fun j u hu => (hb.cell (p := ⟨b, o + j, none⟩) (World.block_lt_of_cell? w _ (hc j u hu))).trans (hc j u hu)⟩

section
variable {α : Type} (enc : α → List Value) (k : Nat)
def flat (xs : List α) : List Value := xs.flatMap enc
theorem flat_append (xs ys : List α) : flat enc (xs ++ ys) = flat enc xs ++ flat enc ys := by simp [flat]
theorem flat_one (x : α) : flat enc [x] = enc x := by simp [flat]
variable {enc k}
theorem flat_len (hk : ∀ x, (enc x).length = k) (xs : List α) : (flat enc xs).length = xs.length * k := by
  induction xs with
  | nil => simp [flat]
  | cons x xs ih => simp only [flat, List.flatMap_cons, List.length_append, List.length_cons, hk] at ih ⊢; rw [ih, Nat.add_mul]; omega
theorem flat_at (hk : ∀ x, (enc x).length = k) : ∀ {xs : List α} {j : Nat} {x : α} {i : Nat} {v : Value}, xs[j]? = some x → (enc x)[i]? = some v → (flat enc xs)[j * k + i]? = some v := by
  intro xs
  induction xs with
  | nil => intro j x i v h; simp at h
  | cons y ys ih =>
    intro j x i v h hv
    have hi : i < k := by have := (List.getElem?_eq_some_iff.1 hv).1; rw [hk] at this; exact this
    simp only [flat, List.flatMap_cons]
    cases j with
    | zero =>
      simp at h; subst h
      rw [List.getElem?_append_left (by rw [hk]; omega), Nat.zero_mul, Nat.zero_add]; exact hv
    | succ j =>
      have h' : ys[j]? = some x := by simpa using h
      rw [List.getElem?_append_right (by rw [hk, Nat.add_mul]; omega), hk, show (j + 1) * k + i - k = j * k + i by rw [Nat.add_mul]; omega]
      exact ih h' hv
theorem flat_get (hk : ∀ x, (enc x).length = k) : ∀ {xs : List α} {t : Nat} {u : Value}, (flat enc xs)[t]? = some u → ∃ j x i, t = j * k + i ∧ i < k ∧ xs[j]? = some x ∧ (enc x)[i]? = some u := by
  intro xs
  induction xs with
  | nil => intro t u h; simp [flat] at h
  | cons y ys ih =>
    intro t u h
    simp only [flat, List.flatMap_cons] at h
    by_cases ht : t < k
    · rw [List.getElem?_append_left (by rw [hk]; exact ht)] at h
      exact ⟨0, y, t, by omega, ht, rfl, h⟩
    · rw [List.getElem?_append_right (by rw [hk]; omega), hk] at h
      obtain ⟨j, x, i, h1, h2, h3, h4⟩ := ih h
      exact ⟨j + 1, x, i, by rw [Nat.add_mul]; omega, h2, by simpa using h3, h4⟩
theorem flat_mem {xs : List α} {u : Value} (h : u ∈ flat enc xs) : ∃ x ∈ xs, u ∈ enc x := by simpa [flat] using h
theorem flat_cell1 (h1 : ∀ x, ∀ v ∈ enc x, v.oneCell' = true) (xs : List α) : ∀ u ∈ flat enc xs, u.oneCell' = true := fun u hu => by
  obtain ⟨x, _, hx⟩ := flat_mem hu
  exact h1 x u hx

variable (enc k) in
/-- A slice that reads as a list of structs. -/
def RK (w : World) (A : Option Addr) (xs : List α) : Prop :=
  0 < xs.length → ∃ b o, A = some ⟨b, o, none⟩ ∧ b < w.heap.size ∧ ∀ j x i v, xs[j]? = some x → (enc x)[i]? = some v → w.cell? ⟨b, o + j * k + i, none⟩ = some v
theorem RK.nil (w : World) (A : Option Addr) : RK enc k w A [] := fun h => absurd h (by simp)
theorem RK.below {w w' : World} {A : Option Addr} {xs : List α} (h : RK enc k w A xs) (hb : Below w.heap.size w w') : RK enc k w' A xs := by
  intro hp
  obtain ⟨b, o, rfl, hlt, hc⟩ := h hp
  exact ⟨b, o, rfl, Nat.lt_of_lt_of_le hlt hb.size, fun j x i v hj hv => (hb.cell (p := ⟨b, o + j * k + i, none⟩) hlt).trans (hc j x i v hj hv)⟩
theorem RK.alloc {w : World} {A : Option Addr} {xs : List α} (h : RK enc k w A xs) (o : Obj) : RK enc k (w.alloc o) A xs := h.below ((Below.refl _ _).alloc (Nat.le_refl _) o)
theorem RK.drewN {w : World} {A : Option Addr} {xs : List α} (h : RK enc k w A xs) (n : Nat) : RK enc k (w.drewN n) A xs := h
theorem RK.own {w : World} {A : Option Addr} {xs : List α} {base : Nat} {e : TypeId} {n c : Nat} (hk : ∀ x, (enc x).length = k) (h : w.ownsRow base e k (.slice A n c) n (flat enc xs)) (hn : xs.length = n) : RK enc k w A xs := by
  intro hp
  obtain ⟨g, cap, hv, _, hlt⟩ := h.form (by omega)
  cases hv
  refine ⟨g, 0, rfl, hlt, fun j x i v hj hv => ?_⟩
  have := h.cells (g := g) rfl _ _ (flat_at hk hj hv)
  rw [Addr.add_lit, ← Nat.add_assoc] at this
  exact this
theorem RK.src {w : World} {A : Option Addr} {xs : List α} {n c : Nat} (hk : ∀ x, (enc x).length = k) (h : RK enc k w A xs) (hn : xs.length = n) (hw : WfS A n c) : Src w (.slice A n c) k n (flat enc xs) := by
  refine ⟨by rw [flat_len hk, hn], ?_⟩
  rcases hw with ⟨rfl, rfl, rfl⟩ | ⟨b, o, rfl, _⟩
  · exact .inl ⟨rfl, rfl⟩
  · refine .inr ⟨b, o, c, rfl, fun t u hu => ?_⟩
    obtain ⟨j, x, i, rfl, _, hx, hv⟩ := flat_get hk hu
    obtain ⟨b', o', hA, _, hc⟩ := h (by have := lt_of_at hx; omega)
    cases hA
    rw [← Nat.add_assoc]
    exact hc j x i u hx hv
theorem RK.take {w : World} {A : Option Addr} {xs : List α} (h : RK enc k w A xs) (n : Nat) : RK enc k w A (xs.take n) := by
  intro hp
  obtain ⟨b, o, rfl, hlt, hc⟩ := h (by rw [List.length_take] at hp; omega)
  refine ⟨b, o, rfl, hlt, fun j x i v hj hv => hc j x i v ?_ hv⟩
  rw [List.getElem?_take] at hj
  split at hj
  · exact hj
  · cases hj
end
end Go.Proofs.Ythepafendopfhaa
