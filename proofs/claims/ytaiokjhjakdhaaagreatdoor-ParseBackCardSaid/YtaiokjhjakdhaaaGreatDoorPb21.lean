/- More laws over a list of blocks and a further block: an own row appended, a map written. No walk. Printed by gen/clk.py. · Rows that lie among known blocks; loads of known cells; lists alike. No walk. (Cut out of the texts of jobs.) -/
import Derived.Test.YtaiokjhjakdhaaaGreatDoorPb20
import Derived.Deep.Upon
import Derived.Maps.OwnSet
namespace Go.Proofs.YtaiokjhjakdhaaaGreatDoor
open Go.RowKit
set_option linter.unusedVariables false
set_option maxRecDepth 100000

section
variable {w0 w w' : World} {l : Ents} {M : Nat} {ob ob' : Obj}
/-- The further block turns, all others stay. -/
theorem Hm.turned (h : Hm w0 w M ob l) (hg : w.grownBy w' (some M)) (hm : w'.heap[M]? = some ob') (h0 : w0.heap.size ≤ M) : Hm w0 w' M ob' l := by
  refine ⟨⟨fun x hx => ⟨(h.hp.blk x hx).1, ?_⟩, h.hp.nd, ⟨hg.os.trans h.hp.bel.os, hg.tape.trans h.hp.bel.tape, hg.output.trans h.hp.bel.output, Nat.le_trans h.hp.bel.size hg.size, fun k hk => (hg.block k (Nat.lt_of_lt_of_le hk h.hp.bel.size) (by simp; omega)).trans (h.hp.bel.block k hk)⟩, h.hp.t0⟩, hm, h.out⟩
  have hb := (h.hp.blk x hx).2
  have hne := h.out x hx
  unfold Blk at hb ⊢
  rw [hg.block x.1 (h.hp.lt hx) (by simpa using hne)]
  exact hb
theorem Hm.made (h : Hp w0 w l) (o : Obj) : Hm w0 (w.alloc o) w.heap.size o l := by
  refine ⟨h.go ((Below.refl _ _).alloc (Nat.le_refl _) o), (MapKept.heap_alloc w o).1, fun x hx e => ?_⟩
  have := h.lt hx
  omega
end
end Go.Proofs.YtaiokjhjakdhaaaGreatDoor

namespace Go.Proofs.YtaiokjhjakdhaaaGreatDoor
open Go.RowKit
set_option linter.unusedVariables false
set_option maxRecDepth 100000

/-- The blocks E lie in w. -/
def Hld (E : Ents) (w : World) : Prop := ∀ x ∈ E, Blk w x.1 x.2.1 x.2.2.toArray
theorem Hld.below {E : Ents} {w w' : World} (h : Hld E w) (hb : Below w.heap.size w w') : Hld E w' := fun x hx => (h x hx).below hb (h x hx).lt
theorem Hp.hld {w0 w : World} {l E : Ents} (h : Hp w0 w l) (hs : ∀ x ∈ E, x ∈ l) : Hld E w := fun x hx => (h.blk x (hs x hx)).2
/-- A slice of n elements whose row is one of the blocks E. -/
def RowIn (E : Ents) (e : TypeId) (size : Nat) (v : Value) (n : Nat) (xs : List Value) : Prop := ∃ cur, RowV size v n xs cur ∧ ∀ x ∈ rowE v e cur, x ∈ E
theorem RowIn.mono {E E' : Ents} {e : TypeId} {size n : Nat} {v : Value} {xs : List Value} (h : RowIn E e size v n xs) (hs : ∀ x ∈ E, x ∈ E') : RowIn E' e size v n xs := by
  obtain ⟨cur, h1, h2⟩ := h
  exact ⟨cur, h1, fun x hx => hs x (h2 x hx)⟩
theorem RowIn.nil (E : Ents) (e : TypeId) (size : Nat) : RowIn E e size (.slice none 0 0) 0 [] := ⟨[], RowV.nil size, by simp [rowE]⟩
theorem RowIn.shape {E : Ents} {e : TypeId} {size n : Nat} {v : Value} {xs : List Value} (h : RowIn E e size v n xs) : ∃ B c, v = .slice B n c ∧ c ≤ maxLen := by
  obtain ⟨cur, h1, _⟩ := h
  exact h1.shape
theorem RowIn.le {E : Ents} {e : TypeId} {size n : Nat} {v : Value} {xs : List Value} (h : RowIn E e size v n xs) : n ≤ 9223372036854775807 := by
  obtain ⟨cur, h1, _⟩ := h
  rcases h1.or_ with ⟨_, rfl⟩ | ⟨g, cap, _, h2, h3, _⟩
  · omega
  · unfold maxLen at h3
    omega
theorem RowIn.len {α : Type} {enc : α → List Value} {E : Ents} {e : TypeId} {k n : Nat} {v : Value} {xs : List α} (hk : ∀ x, (enc x).length = k) (h : RowIn E e k v n (flat enc xs)) (hp : 0 < k) : xs.length = n := by
  obtain ⟨cur, h1, _⟩ := h
  exact h1.len_ hk hp
/-- An element of a row. -/
theorem RowIn.at_ {α : Type} {enc : α → List Value} {E : Ents} {e : TypeId} {k n j : Nat} {v : Value} {xs : List α} {x : α} (hk : ∀ x, (enc x).length = k) (h : RowIn E e k v n (flat enc xs)) (hx : xs[j]? = some x) (hp : 0 < k) :
    ∃ g c, v = .slice (some ⟨g, 0, none⟩) n c ∧ ∀ w, Hld E w → w.rangeAt g (j * k) (enc x) := by
  obtain ⟨cur, h1, h2⟩ := h
  obtain ⟨g, c, rfl, h3, h4⟩ := h1.at_ hk hx hp
  refine ⟨g, c, rfl, fun w hw i u hu => ?_⟩
  have hb := hw (g, e, cur) (h2 _ (by simp [rowE]))
  rw [hb.cell]
  rw [← h3, List.getElem?_take] at hu
  split at hu
  · rw [List.getElem?_drop] at hu
    rw [Nat.mul_comm j k]
    simpa using hu
  · cases hu
section
variable {P : Program} {ops : Array Oper} {rest : List Oper} {o : Oper} {a a2 : Act} {w0 w : World} {l : Ents} {Q : Exit → Act → World → Prop}
/-- A load of a struct whose cells are known. -/
theorem ldX {b q k : Nat} {cs : List Value} (hr : Hid (w.rangeAt b q cs)) {t : TypeId} {p : Operand} (hK : wpList P ops Q rest a2 w) (ho : o.op = .load t p := by rfl) (hT : RowT P t k := by assumption) (hl : cs.length = k := by rfl) (hg : Region.wanted o (yielded ops a.tmps) = true := by first | exact wanted_none rfl | exact wanted_some rfl rfl) (hp : a.eval p = .pointer (some ⟨b, q, none⟩) := by rfl)
    (hn : a.put o.dst (.agg cs.toArray) = a2 := by (simp only [Act.put, List.setIfInBounds_toArray, List.set_cons_succ, List.set_cons_zero]; rfl)) : wpList P ops Q (o :: rest) a w := by
  subst hn
  obtain ⟨d, h1, h2⟩ := hT.u
  refine wpList_step fun K hK' => ?_
  rw [if_pos hg]
  exact wp_load_mid t p ho b q hp cs d hr.out h1 h2 (by rw [hT.s, hl]) (hK' _ _ hK)
/-- A load of a cell. -/
theorem ld1X {b q : Nat} {v : Value} (hr : Hid (w.cell? ⟨b, q, none⟩ = some v)) {t : TypeId} {p : Operand} (hK : wpList P ops Q rest a2 w) (ho : o.op = .load t p := by rfl) (hT : ∃ d, P.underlying t = some d ∧ d.isRow = false := by assumption) (hg : Region.wanted o (yielded ops a.tmps) = true := by first | exact wanted_none rfl | exact wanted_some rfl rfl) (hp : a.eval p = .pointer (some ⟨b, q, none⟩) := by rfl)
    (hn : a.put o.dst v = a2 := by (simp only [Act.put, List.setIfInBounds_toArray, List.set_cons_succ, List.set_cons_zero]; rfl)) : wpList P ops Q (o :: rest) a w := by
  subst hn
  obtain ⟨d, h1, h2⟩ := hT
  refine wpList_step fun K hK' => ?_
  rw [if_pos hg]
  unfold Oper.wp execOp
  have hagg : (isAgg t).run P w = .ok false w := by
    unfold isAgg
    rw [Sem.run_bind, run_underlying h1 w]
    cases d <;> simp_all
  simp only [ho, hp, Instr.loadAt, Instr.sureAddr, loadVar, Sem.run_bind, Sem.run_pure, Result.andThen_ok, hagg]
  have hc := hr.out
  simp [hc, go_sem]
  exact hK' _ _ hK
end
section
variable {P : Program} {ops : Array Oper} {rest : List Oper} {o : Oper} {a a2 : Act} {w0 w : World} {l : Ents} {Q : Exit → Act → World → Prop}
/-- A literal slice. -/
theorem bsA (t : TypeId) (cs : List Value) (n : Nat) (H : Hid (Hp w0 w l)) {d : Tmp} {a3 : Nat → Act} (hK : ∀ (b : Nat) W', Hid (Hp w0 W' ((b, t, cs) :: l)) → wpList P ops Q rest (a3 b) W') (hg : Region.wanted o (yielded ops a.tmps) = true := by first | exact wanted_none rfl | exact wanted_some rfl rfl) (hd : o.dst = some d := by rfl)
    (hr : ∀ W : World, (execOp a.eval o).run P W = .ok (.value (.slice (some ⟨W.heap.size, 0, none⟩) n n)) (W.alloc (.cells cs.toArray t)) := by intro W; kernel_rfl)
    (hn : ∀ b, a.put (some d) (.slice (some ⟨b, 0, none⟩) n n) = a3 b := by (intro b; simp only [Act.put, List.setIfInBounds_toArray, List.set_cons_succ, List.set_cons_zero]; rfl)) : wpList P ops Q (o :: rest) a w := by
  unfold wpList
  rw [if_pos hg]
  refine .inl ?_
  unfold Oper.wp
  rw [hr, Oper.upon_value, hd, hn]
  exact hK _ _ (Lib.hid (H.out.fresh ((Below.refl _ _).alloc (Nat.le_refl _) _) (Nat.le_refl _) (Blk.new _ _ _)))
end
/-- A literal row in the call's own blocks. -/
theorem RowIn.lit {e : TypeId} {size n g : Nat} {xs : List Value} (hl : xs.length = n * size) (hm : n ≤ maxLen) : RowIn [(g, e, xs)] e size (.slice (some ⟨g, 0, none⟩) n n) n xs :=
  ⟨xs, ⟨hl, .inr ⟨g, n, rfl, Nat.le_refl _, hm, hl, List.take_of_length_le (by rw [hl]; exact Nat.le_refl _)⟩⟩, by simp [rowE]⟩
theorem kBui {P : Program} {ops : Array Oper} {rest : List Oper} {a : Act} {w : World} {d : Option Tmp} {ty : TypeId} {po : String} {af : Array Edge} {g : Option (Nat × Bool)} {R : Act → Prop} {b : Builtin} {c : Array Operand} {ts : Array TypeId} (h : wpKeep P ops w R (⟨d, .call { callee := .builtin b, args := c, argTypes := ts }, ty, po, af, g⟩ :: rest) a) : wpKeep P ops w R (⟨d, .call { callee := .builtin b, args := c, argTypes := ts }, ty, po, af, g⟩ :: rest) a := h
theorem rangeAt_one {w : World} {b q : Nat} {v : Value} (h : w.rangeAt b q [v]) : w.cell? ⟨b, q, none⟩ = some v := h 0 v rfl
/-- Two lists are alike, element by element. -/
def All2 {α β : Type} (R : α → β → Prop) (l : List α) (m : List β) : Prop := l.length = m.length ∧ ∀ (j : Nat) (a : α) (b : β), l[j]? = some a → m[j]? = some b → R a b
theorem All2.mono {α β : Type} {R S : α → β → Prop} {l : List α} {m : List β} (h : All2 R l m) (hs : ∀ a b, R a b → S a b) : All2 S l m := ⟨h.1, fun j a b h1 h2 => hs _ _ (h.2 j a b h1 h2)⟩
theorem All2.nil {α β : Type} {R : α → β → Prop} : All2 R [] [] := ⟨rfl, fun j a b h => by simp at h⟩
theorem All2.snoc {α β : Type} {R : α → β → Prop} {l : List α} {m : List β} (h : All2 R l m) {a : α} {b : β} (hr : R a b) : All2 R (l ++ [a]) (m ++ [b]) := by
  refine ⟨by simp [h.1], fun j x y h1 h2 => ?_⟩
  rcases Nat.lt_trichotomy j l.length with hj | hj | hj
  · rw [List.getElem?_append_left hj] at h1
    rw [List.getElem?_append_left (by rw [← h.1]; exact hj)] at h2
    exact h.2 j x y h1 h2
  · subst hj
    simp at h1
    rw [h.1] at h2
    simp at h2
    subst h1; subst h2
    exact hr
  · rw [List.getElem?_eq_none (by simp; omega)] at h1
    cases h1
theorem All2.cons {α β : Type} {R : α → β → Prop} {l : List α} {m : List β} {a : α} {b : β} (hr : R a b) (h : All2 R l m) : All2 R (a :: l) (b :: m) := by
  refine ⟨by simp [h.1], fun j x y h1 h2 => ?_⟩
  cases j with
  | zero => simp at h1 h2; subst h1; subst h2; exact hr
  | succ j => exact h.2 j x y (by simpa using h1) (by simpa using h2)
/-- The element of the second list beside one of the first. -/
theorem All2.at_ {α β : Type} {R : α → β → Prop} {l : List α} {m : List β} (h : All2 R l m) {j : Nat} {a : α} (ha : l[j]? = some a) : ∃ b, m[j]? = some b ∧ R a b := by
  have hj : j < m.length := by rw [← h.1]; exact (List.getElem?_eq_some_iff.1 ha).1
  exact ⟨m[j], List.getElem?_eq_getElem hj, h.2 j a _ ha (List.getElem?_eq_getElem hj)⟩
end Go.Proofs.YtaiokjhjakdhaaaGreatDoor
