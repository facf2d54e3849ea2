/- More laws over a list of blocks and a further block: an own row appended, a map written. No walk. Printed by gen/clk.py. · Rows that lie among known blocks; loads of known cells; lists alike. No walk. (Cut out of the texts of jobs.) -/
import Derived.Test.YthepafendopfhaaTl8
import Derived.Deep.Upon
import Derived.Maps.OwnSet
import Derived.Test.YthepafendopfhaaTl6
namespace Go.Proofs.Ythepafendopfhaa
open Go.RowKit
set_option linter.unusedVariables false
set_option maxRecDepth 100000

theorem rowE_blk {w0 w : World} {l : Ents} {v : Value} {e : TypeId} {cur : List Value} (h : Hp w0 w l) (hin : ∀ x ∈ rowE v e cur, x ∈ l) {B : Option Addr} {n c : Nat} (hv : v = .slice B n c) : ∀ g, B = some ⟨g, 0, none⟩ → Blk w g e cur.toArray := by
  rintro g rfl
  subst hv
  exact (h.blk (g, e, cur) (hin _ (by simp [rowE]))).2
section
variable {w0 w w' : World} {l : Ents} {M : Nat} {ob ob' : Obj}
/-- The further block turns, all others stay. -/
theorem Hm.turned (h : Hm w0 w M ob l) (hg : w.grownBy w' (some M)) (hm : w'.heap[M]? = some ob') (h0 : w0.heap.size ≤ M) : Hm w0 w' M ob' l := by
  refine ⟨⟨fun x hx => ⟨(h.hp.blk x hx).1, ?_⟩, h.hp.nd, ⟨hg.os.trans h.hp.bel.os, hg.tape.trans h.hp.bel.tape, hg.output.trans h.hp.bel.output, Nat.le_trans h.hp.bel.size hg.size, fun k hk => (hg.block k (Nat.lt_of_lt_of_le hk h.hp.bel.size) (by simp; omega)).trans (h.hp.bel.block k hk)⟩, h.hp.t0⟩, hm, h.out⟩
  have hb := (h.hp.blk x hx).2
  have hne := h.out x hx
  unfold Blk at hb ⊢
  rw [hg.block x.1 (h.hp.lt hx) (by simpa using hne)]
  exact hb
theorem Hm.made (h : Hp w0 w l) (o : Obj) : Hm w0 (w.alloc o) w.heap.size o l := by
  refine ⟨h.go ((Below.refl _ _).alloc (Nat.le_refl _) o), (MapKept.heap_alloc w o).1, fun x hx e => ?_⟩
  have := h.lt hx
  omega
end
section
variable {P : Program} {ops : Array Oper} {rest : List Oper} {o : Oper} {a a2 : Act} {w0 w : World} {l : Ents} {Q : Exit → Act → World → Prop} {M : Nat} {ob : Obj}
/-- append of an own row to another one -/
theorem apR {size bytes m n : Nat} {t e : TypeId} {v v2 : Value} {xs cur ys cur2 : List Value} (X T : Ents) (H : Hid (Hm w0 w M ob l)) (R : Hid (RowV size v n xs cur)) (R2 : Hid (RowV size v2 m ys cur2)) (I : InfoT P e size bytes) (hsz : 0 < size) (ht : P.underlying t = some (.slice e)) {s x : Operand}
    (hK : ∀ v' cur' W', Hid (RowV size v' (n + m) (xs ++ ys) cur') → Hid (Hm w0 W' M ob (X ++ (rowE v' e cur' ++ T))) → wpList P ops Q rest (a.put o.dst v') W')
    (hin : ∀ x ∈ rowE v2 e cur2, x ∈ l) (h1 : ys.all (·.oneCell') = true) (h63 : n + m ≤ maxLen) (hb : (n + m) * bytes ≤ 140737488355328)
    (hl : l = X ++ (rowE v e cur ++ T) := by rfl) (hgd : o.guard = none := by rfl) (ho : o.op = .call { callee := .builtin .append, args := #[s, x], argTypes := #[t, t] } := by rfl) (hs : a.eval s = v := by rfl) (hx : a.eval x = v2 := by rfl) : wpList P ops Q (o :: rest) a w := by
  subst hl
  obtain ⟨i, z, hi, hz, rfl, rfl, hzs⟩ := I.h
  refine wpList_plain hgd fun _ hK2 => ?_
  unfold Oper.wp execOp
  have step : ∃ v' w' cur', (Builtin.append_ #[t, t] o.type #[v, v2]).run P w = .ok v' w' ∧ RowV i.size v' (n + m) (xs ++ ys) cur' ∧ Hm w0 w' M ob (X ++ (rowE v' e cur' ++ T)) := by
    rcases Nat.eq_zero_or_pos m with rfl | h0
    · have hy : ys = [] := List.eq_nil_of_length_eq_zero (by simpa using R2.out.len)
      subst hy
      have hsrc : ∃ B c, v2 = .slice B 0 c := by
        rcases R2.out.or_ with ⟨rfl, _⟩ | ⟨g, cap, rfl, _⟩
        · exact ⟨_, _, rfl⟩
        · exact ⟨_, _, rfl⟩
      obtain ⟨B, c, rfl⟩ := hsrc
      have hS : _root_.Go.Src P i.size t (.slice B 0 c) 0 [] w := by
        cases B with
        | none => exact _root_.Go.Src.ofNil w ht c
        | some p => exact _root_.Go.Src.ofSlice w ht p 0 c [] (by simp) (by simp) (by simp)
      have hv : ∃ B n' c, v = .slice B n' c ∧ n' ≤ c := by
        rcases R.out.or_ with ⟨rfl, _⟩ | ⟨g, cap, rfl, h, _⟩
        · exact ⟨_, _, _, rfl, by omega⟩
        · exact ⟨_, _, _, rfl, h⟩
      obtain ⟨B2, n2, c2, rfl, h2⟩ := hv
      refine ⟨_, w, cur, run_append_nothing (P := P) w t t o.type e i ht hi B2 n2 c2 h2 _ hS, ?_, H.out⟩
      rw [List.append_nil]
      exact R.out
    · rcases R2.out.or_ with ⟨_, rfl⟩ | ⟨g, cap, rfl, _, _, hc, htk⟩
      · omega
      · have hk := (H.out.hp.blk (g, e, cur2) (hin _ (by simp [rowE]))).2
        obtain ⟨v', cur', w', hr, h2, h3, z', h4⟩ := run_append_H (P := P) t o.type i z ht hi hz hzs hsz H.out.hp R.out g m cap ys R2.out.len (fun j u hu => by
          rw [hk.cell]
          rw [← htk, List.getElem?_take] at hu
          split at hu
          · simpa using hu
          · cases hu) (fun u hu => List.all_eq_true.1 h1 u hu) h0 h63 hb
        exact ⟨v', w', cur', hr, h2, H.out.chg h3 h4⟩
  obtain ⟨v', w', cur', hr, h2, h3⟩ := step
  simp only [ho, resolve, invoke, builtin, Sem.run_bind, Sem.run_pure, Result.andThen_ok, List.map_toArray, List.map_cons, List.map_nil, hs, hx, hr]
  exact hK2 _ _ (hK v' cur' w' (Lib.hid h2) (Lib.hid h3))
end
end Go.Proofs.Ythepafendopfhaa

namespace Go.Proofs.Ythepafendopfhaa
open Go.RowKit
set_option linter.unusedVariables false
set_option maxRecDepth 100000

/-- The blocks E lie in w. -/
def Hld (E : Ents) (w : World) : Prop := ∀ x ∈ E, Blk w x.1 x.2.1 x.2.2.toArray
theorem Hld.below {E : Ents} {w w' : World} (h : Hld E w) (hb : Below w.heap.size w w') : Hld E w' := fun x hx => (h x hx).below hb (h x hx).lt
theorem Hld.sub {E E' : Ents} {w : World} (h : Hld E w) (hs : ∀ x ∈ E', x ∈ E) : Hld E' w := fun x hx => h x (hs x hx)
theorem Hp.hld {w0 w : World} {l E : Ents} (h : Hp w0 w l) (hs : ∀ x ∈ E, x ∈ l) : Hld E w := fun x hx => (h.blk x (hs x hx)).2
/-- A slice of n elements whose row is one of the blocks E. -/
def RowIn (E : Ents) (e : TypeId) (size : Nat) (v : Value) (n : Nat) (xs : List Value) : Prop := ∃ cur, RowV size v n xs cur ∧ ∀ x ∈ rowE v e cur, x ∈ E
theorem RowIn.mono {E E' : Ents} {e : TypeId} {size n : Nat} {v : Value} {xs : List Value} (h : RowIn E e size v n xs) (hs : ∀ x ∈ E, x ∈ E') : RowIn E' e size v n xs := by
  obtain ⟨cur, h1, h2⟩ := h
  exact ⟨cur, h1, fun x hx => hs x (h2 x hx)⟩
theorem RowIn.nil (E : Ents) (e : TypeId) (size : Nat) : RowIn E e size (.slice none 0 0) 0 [] := ⟨[], RowV.nil size, by simp [rowE]⟩
theorem RowIn.shape {E : Ents} {e : TypeId} {size n : Nat} {v : Value} {xs : List Value} (h : RowIn E e size v n xs) : ∃ B c, v = .slice B n c ∧ c ≤ maxLen := by
  obtain ⟨cur, h1, _⟩ := h
  exact h1.shape
theorem RowIn.le {E : Ents} {e : TypeId} {size n : Nat} {v : Value} {xs : List Value} (h : RowIn E e size v n xs) : n ≤ 9223372036854775807 := by
  obtain ⟨cur, h1, _⟩ := h
  rcases h1.or_ with ⟨_, rfl⟩ | ⟨g, cap, _, h2, h3, _⟩
  · omega
  · unfold maxLen at h3
    omega
theorem RowIn.len {α : Type} {enc : α → List Value} {E : Ents} {e : TypeId} {k n : Nat} {v : Value} {xs : List α} (hk : ∀ x, (enc x).length = k) (h : RowIn E e k v n (flat enc xs)) (hp : 0 < k) : xs.length = n := by
  obtain ⟨cur, h1, _⟩ := h
  exact h1.len_ hk hp
/-- An element of a row. -/
theorem RowIn.at_ {α : Type} {enc : α → List Value} {E : Ents} {e : TypeId} {k n j : Nat} {v : Value} {xs : List α} {x : α} (hk : ∀ x, (enc x).length = k) (h : RowIn E e k v n (flat enc xs)) (hx : xs[j]? = some x) (hp : 0 < k) :
    ∃ g c, v = .slice (some ⟨g, 0, none⟩) n c ∧ ∀ w, Hld E w → w.rangeAt g (j * k) (enc x) := by
  obtain ⟨cur, h1, h2⟩ := h
  obtain ⟨g, c, rfl, h3, h4⟩ := h1.at_ hk hx hp
  refine ⟨g, c, rfl, fun w hw i u hu => ?_⟩
  have hb := hw (g, e, cur) (h2 _ (by simp [rowE]))
  rw [hb.cell]
  rw [← h3, List.getElem?_take] at hu
  split at hu
  · rw [List.getElem?_drop] at hu
    rw [Nat.mul_comm j k]
    simpa using hu
  · cases hu
section
variable {P : Program} {ops : Array Oper} {rest : List Oper} {o : Oper} {a a2 : Act} {w0 w : World} {l : Ents} {Q : Exit → Act → World → Prop}
/-- A load of a struct whose cells are known. -/
theorem ldX {b q k : Nat} {cs : List Value} (hr : Hid (w.rangeAt b q cs)) {t : TypeId} {p : Operand} (hK : wpList P ops Q rest a2 w) (ho : o.op = .load t p := by rfl) (hT : RowT P t k := by assumption) (hl : cs.length = k := by rfl) (hg : Region.wanted o (yielded ops a.tmps) = true := by first | exact wanted_none rfl | exact wanted_some rfl rfl) (hp : a.eval p = .pointer (some ⟨b, q, none⟩) := by rfl)
    (hn : a.put o.dst (.agg cs.toArray) = a2 := by (simp only [Act.put, List.setIfInBounds_toArray, List.set_cons_succ, List.set_cons_zero]; rfl)) : wpList P ops Q (o :: rest) a w := by
  subst hn
  obtain ⟨d, h1, h2⟩ := hT.u
  refine wpList_step fun K hK' => ?_
  rw [if_pos hg]
  exact wp_load_mid t p ho b q hp cs d hr.out h1 h2 (by rw [hT.s, hl]) (hK' _ _ hK)
/-- A load of a cell. -/
theorem ld1X {b q : Nat} {v : Value} (hr : Hid (w.cell? ⟨b, q, none⟩ = some v)) {t : TypeId} {p : Operand} (hK : wpList P ops Q rest a2 w) (ho : o.op = .load t p := by rfl) (hT : ∃ d, P.underlying t = some d ∧ d.isRow = false := by assumption) (hg : Region.wanted o (yielded ops a.tmps) = true := by first | exact wanted_none rfl | exact wanted_some rfl rfl) (hp : a.eval p = .pointer (some ⟨b, q, none⟩) := by rfl)
    (hn : a.put o.dst v = a2 := by (simp only [Act.put, List.setIfInBounds_toArray, List.set_cons_succ, List.set_cons_zero]; rfl)) : wpList P ops Q (o :: rest) a w := by
  subst hn
  obtain ⟨d, h1, h2⟩ := hT
  refine wpList_step fun K hK' => ?_
  rw [if_pos hg]
  unfold Oper.wp execOp
  have hagg : (isAgg t).run P w = .ok false w := by
    unfold isAgg
    rw [Sem.run_bind, run_underlying h1 w]
    cases d <;> simp_all
  simp only [ho, hp, Instr.loadAt, Instr.sureAddr, loadVar, Sem.run_bind, Sem.run_pure, Result.andThen_ok, hagg]
  have hc := hr.out
  simp [hc, go_sem]
  exact hK' _ _ hK
end
section
variable {P : Program} {ops : Array Oper} {rest : List Oper} {o : Oper} {a a2 : Act} {w0 w : World} {l : Ents} {Q : Exit → Act → World → Prop}
/-- A literal slice. -/
theorem bsA (t : TypeId) (cs : List Value) (n : Nat) (H : Hid (Hp w0 w l)) {d : Tmp} {a3 : Nat → Act} (hK : ∀ (b : Nat) W', Hid (Hp w0 W' ((b, t, cs) :: l)) → wpList P ops Q rest (a3 b) W') (hg : Region.wanted o (yielded ops a.tmps) = true := by first | exact wanted_none rfl | exact wanted_some rfl rfl) (hd : o.dst = some d := by rfl)
    (hr : ∀ W : World, (execOp a.eval o).run P W = .ok (.value (.slice (some ⟨W.heap.size, 0, none⟩) n n)) (W.alloc (.cells cs.toArray t)) := by intro W; kernel_rfl)
    (hn : ∀ b, a.put (some d) (.slice (some ⟨b, 0, none⟩) n n) = a3 b := by (intro b; simp only [Act.put, List.setIfInBounds_toArray, List.set_cons_succ, List.set_cons_zero]; rfl)) : wpList P ops Q (o :: rest) a w := by
  unfold wpList
  rw [if_pos hg]
  refine .inl ?_
  unfold Oper.wp
  rw [hr, Oper.upon_value, hd, hn]
  exact hK _ _ (Lib.hid (H.out.fresh ((Below.refl _ _).alloc (Nat.le_refl _) _) (Nat.le_refl _) (Blk.new _ _ _)))
end
/-- A literal row in the call's own blocks. -/
theorem RowIn.lit {e : TypeId} {size n g : Nat} {xs : List Value} (hl : xs.length = n * size) (hm : n ≤ maxLen) : RowIn [(g, e, xs)] e size (.slice (some ⟨g, 0, none⟩) n n) n xs :=
  ⟨xs, ⟨hl, .inr ⟨g, n, rfl, Nat.le_refl _, hm, hl, List.take_of_length_le (by rw [hl]; exact Nat.le_refl _)⟩⟩, by simp [rowE]⟩
theorem kBui {P : Program} {ops : Array Oper} {rest : List Oper} {a : Act} {w : World} {d : Option Tmp} {ty : TypeId} {po : String} {af : Array Edge} {g : Option (Nat × Bool)} {R : Act → Prop} {b : Builtin} {c : Array Operand} {ts : Array TypeId} (h : wpKeep P ops w R (⟨d, .call { callee := .builtin b, args := c, argTypes := ts }, ty, po, af, g⟩ :: rest) a) : wpKeep P ops w R (⟨d, .call { callee := .builtin b, args := c, argTypes := ts }, ty, po, af, g⟩ :: rest) a := h
theorem kskQ {P : Program} {ops : Array Oper} {rest : List Oper} {o : Oper} {a : Act} {w : World} {R : Act → Prop} {i : Nat} {b : Bool} (h : o.guard = some (i, b)) (hy : yielded ops a.tmps i = some (!b)) (hK : wpKeep P ops w R rest (a.put o.dst undef)) : wpKeep P ops w R (o :: rest) a := wpK_skip h hy hK
theorem rangeAt_one {w : World} {b q : Nat} {v : Value} (h : w.rangeAt b q [v]) : w.cell? ⟨b, q, none⟩ = some v := h 0 v rfl
/-- Two lists are alike, element by element. -/
def All2 {α β : Type} (R : α → β → Prop) (l : List α) (m : List β) : Prop := l.length = m.length ∧ ∀ (j : Nat) (a : α) (b : β), l[j]? = some a → m[j]? = some b → R a b
theorem All2.mono {α β : Type} {R S : α → β → Prop} {l : List α} {m : List β} (h : All2 R l m) (hs : ∀ a b, R a b → S a b) : All2 S l m := ⟨h.1, fun j a b h1 h2 => hs _ _ (h.2 j a b h1 h2)⟩
theorem All2.nil {α β : Type} {R : α → β → Prop} : All2 R [] [] := ⟨rfl, fun j a b h => by simp at h⟩
theorem All2.snoc {α β : Type} {R : α → β → Prop} {l : List α} {m : List β} (h : All2 R l m) {a : α} {b : β} (hr : R a b) : All2 R (l ++ [a]) (m ++ [b]) := by
  refine ⟨by simp [h.1], fun j x y h1 h2 => ?_⟩
  rcases Nat.lt_trichotomy j l.length with hj | hj | hj
  · rw [List.getElem?_append_left hj] at h1
    rw [List.getElem?_append_left (by rw [← h.1]; exact hj)] at h2
    exact h.2 j x y h1 h2
  · subst hj
    simp at h1
    rw [h.1] at h2
    simp at h2
    subst h1; subst h2
    exact hr
  · rw [List.getElem?_eq_none (by simp; omega)] at h1
    cases h1
theorem All2.cons {α β : Type} {R : α → β → Prop} {l : List α} {m : List β} {a : α} {b : β} (hr : R a b) (h : All2 R l m) : All2 R (a :: l) (b :: m) := by
  refine ⟨by simp [h.1], fun j x y h1 h2 => ?_⟩
  cases j with
  | zero => simp at h1 h2; subst h1; subst h2; exact hr
  | succ j => exact h.2 j x y (by simpa using h1) (by simpa using h2)
theorem All2.append {α β : Type} {R : α → β → Prop} {l l' : List α} {m m' : List β} (h : All2 R l m) (h' : All2 R l' m') : All2 R (l ++ l') (m ++ m') := by
  refine ⟨by simp [h.1, h'.1], fun j x y h1 h2 => ?_⟩
  rcases Nat.lt_or_ge j l.length with hj | hj
  · rw [List.getElem?_append_left hj] at h1
    rw [List.getElem?_append_left (by rw [← h.1]; exact hj)] at h2
    exact h.2 j x y h1 h2
  · rw [List.getElem?_append_right hj] at h1
    rw [List.getElem?_append_right (by rw [← h.1]; exact hj), ← h.1] at h2
    exact h'.2 _ x y h1 h2
/-- The element of the second list beside one of the first. -/
theorem All2.at_ {α β : Type} {R : α → β → Prop} {l : List α} {m : List β} (h : All2 R l m) {j : Nat} {a : α} (ha : l[j]? = some a) : ∃ b, m[j]? = some b ∧ R a b := by
  have hj : j < m.length := by rw [← h.1]; exact (List.getElem?_eq_some_iff.1 ha).1
  exact ⟨m[j], List.getElem?_eq_getElem hj, h.2 j a _ ha (List.getElem?_eq_getElem hj)⟩
end Go.Proofs.Ythepafendopfhaa
