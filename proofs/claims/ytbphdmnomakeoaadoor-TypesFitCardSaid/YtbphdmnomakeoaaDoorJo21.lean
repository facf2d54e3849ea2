/- Trees of statements in memory. No walk. Printed by gen/job.py. · rat.Small. Printed by gen/job.py. -/
import Derived.Test.YtbphdmnomakeoaaDoorJo19
import Derived.Test.YtbphdmnomakeoaaDoorJo20
import Derived.Test.YtbphdmnomakeoaaDoorJo18
import Derived.Test.YtbphdmnomakeoaaDoorJo12
namespace Go.Proofs.YtbphdmnomakeoaaDoor
open Go.RowKit
set_option linter.unusedVariables false
set_option maxRecDepth 100000

/-- The blocks E lie in w. -/
def Hld (E : Ents) (w : World) : Prop := ∀ x ∈ E, Blk w x.1 x.2.1 x.2.2.toArray
theorem Hld.below {E : Ents} {w w' : World} (h : Hld E w) (hb : Below w.heap.size w w') : Hld E w' := fun x hx => (h x hx).below hb (h x hx).lt
theorem Hld.sub {E E' : Ents} {w : World} (h : Hld E w) (hs : ∀ x ∈ E', x ∈ E) : Hld E' w := fun x hx => h x (hs x hx)
theorem Hp.hld {w0 w : World} {l E : Ents} (h : Hp w0 w l) (hs : ∀ x ∈ E, x ∈ l) : Hld E w := fun x hx => (h.blk x (hs x hx)).2
/-- A slice of n elements whose row is one of the blocks E. -/
def RowIn (E : Ents) (e : TypeId) (size : Nat) (v : Value) (n : Nat) (xs : List Value) : Prop := ∃ cur, RowV size v n xs cur ∧ ∀ x ∈ rowE v e cur, x ∈ E
theorem RowIn.mono {E E' : Ents} {e : TypeId} {size n : Nat} {v : Value} {xs : List Value} (h : RowIn E e size v n xs) (hs : ∀ x ∈ E, x ∈ E') : RowIn E' e size v n xs := by
  obtain ⟨cur, h1, h2⟩ := h
  exact ⟨cur, h1, fun x hx => hs x (h2 x hx)⟩
theorem RowIn.nil (E : Ents) (e : TypeId) (size : Nat) : RowIn E e size (.slice none 0 0) 0 [] := ⟨[], RowV.nil size, by simp [rowE]⟩
theorem RowIn.shape {E : Ents} {e : TypeId} {size n : Nat} {v : Value} {xs : List Value} (h : RowIn E e size v n xs) : ∃ B c, v = .slice B n c ∧ c ≤ maxLen := by
  obtain ⟨cur, h1, _⟩ := h
  exact h1.shape
theorem RowIn.le {E : Ents} {e : TypeId} {size n : Nat} {v : Value} {xs : List Value} (h : RowIn E e size v n xs) : n ≤ 9223372036854775807 := by
  obtain ⟨cur, h1, _⟩ := h
  rcases h1.or_ with ⟨_, rfl⟩ | ⟨g, cap, _, h2, h3, _⟩
  · omega
  · unfold maxLen at h3
    omega
theorem RowIn.len {α : Type} {enc : α → List Value} {E : Ents} {e : TypeId} {k n : Nat} {v : Value} {xs : List α} (hk : ∀ x, (enc x).length = k) (h : RowIn E e k v n (flat enc xs)) (hp : 0 < k) : xs.length = n := by
  obtain ⟨cur, h1, _⟩ := h
  exact h1.len_ hk hp
/-- An element of a row. -/
theorem RowIn.at_ {α : Type} {enc : α → List Value} {E : Ents} {e : TypeId} {k n j : Nat} {v : Value} {xs : List α} {x : α} (hk : ∀ x, (enc x).length = k) (h : RowIn E e k v n (flat enc xs)) (hx : xs[j]? = some x) (hp : 0 < k) :
    ∃ g c, v = .slice (some ⟨g, 0, none⟩) n c ∧ ∀ w, Hld E w → w.rangeAt g (j * k) (enc x) := by
  obtain ⟨cur, h1, h2⟩ := h
  obtain ⟨g, c, rfl, h3, h4⟩ := h1.at_ hk hx hp
  refine ⟨g, c, rfl, fun w hw i u hu => ?_⟩
  have hb := hw (g, e, cur) (h2 _ (by simp [rowE]))
  rw [hb.cell]
  rw [← h3, List.getElem?_take] at hu
  split at hu
  · rw [List.getElem?_drop] at hu
    rw [Nat.mul_comm j k]
    simpa using hu
  · cases hu
section
variable {P : Program} {ops : Array Oper} {rest : List Oper} {o : Oper} {a a2 : Act} {w0 w : World} {l : Ents} {Q : Exit → Act → World → Prop}
/-- A load of a struct whose cells are known. -/
theorem ldX {b q k : Nat} {cs : List Value} (hr : Hid (w.rangeAt b q cs)) {t : TypeId} {p : Operand} (hK : wpList P ops Q rest a2 w) (ho : o.op = .load t p := by rfl) (hT : RowT P t k := by assumption) (hl : cs.length = k := by rfl) (hg : Region.wanted o (yielded ops a.tmps) = true := by first | exact wanted_none rfl | exact wanted_some rfl rfl) (hp : a.eval p = .pointer (some ⟨b, q, none⟩) := by rfl)
    (hn : a.put o.dst (.agg cs.toArray) = a2 := by (simp only [Act.put, List.setIfInBounds_toArray, List.set_cons_succ, List.set_cons_zero]; rfl)) : wpList P ops Q (o :: rest) a w := by
  subst hn
  obtain ⟨d, h1, h2⟩ := hT.u
  refine wpList_step fun K hK' => ?_
  rw [if_pos hg]
  exact wp_load_mid t p ho b q hp cs d hr.out h1 h2 (by rw [hT.s, hl]) (hK' _ _ hK)
/-- A load of a cell. -/
theorem ld1X {b q : Nat} {v : Value} (hr : Hid (w.cell? ⟨b, q, none⟩ = some v)) {t : TypeId} {p : Operand} (hK : wpList P ops Q rest a2 w) (ho : o.op = .load t p := by rfl) (hT : ∃ d, P.underlying t = some d ∧ d.isRow = false := by assumption) (hg : Region.wanted o (yielded ops a.tmps) = true := by first | exact wanted_none rfl | exact wanted_some rfl rfl) (hp : a.eval p = .pointer (some ⟨b, q, none⟩) := by rfl)
    (hn : a.put o.dst v = a2 := by (simp only [Act.put, List.setIfInBounds_toArray, List.set_cons_succ, List.set_cons_zero]; rfl)) : wpList P ops Q (o :: rest) a w := by
  subst hn
  obtain ⟨d, h1, h2⟩ := hT
  refine wpList_step fun K hK' => ?_
  rw [if_pos hg]
  unfold Oper.wp execOp
  have hagg : (isAgg t).run P w = .ok false w := by
    unfold isAgg
    rw [Sem.run_bind, run_underlying h1 w]
    cases d <;> simp_all
  simp only [ho, hp, Instr.loadAt, Instr.sureAddr, loadVar, Sem.run_bind, Sem.run_pure, Result.andThen_ok, hagg]
  have hc := hr.out
  simp [hc, go_sem]
  exact hK' _ _ hK
end
section
variable {P : Program} {ops : Array Oper} {rest : List Oper} {o : Oper} {a a2 : Act} {w0 w : World} {l : Ents} {Q : Exit → Act → World → Prop}
/-- A literal slice. -/
theorem bsA (t : TypeId) (cs : List Value) (n : Nat) (H : Hid (Hp w0 w l)) {d : Tmp} {a3 : Nat → Act} (hK : ∀ (b : Nat) W', Hid (Hp w0 W' ((b, t, cs) :: l)) → wpList P ops Q rest (a3 b) W') (hg : Region.wanted o (yielded ops a.tmps) = true := by first | exact wanted_none rfl | exact wanted_some rfl rfl) (hd : o.dst = some d := by rfl)
    (hr : ∀ W : World, (execOp a.eval o).run P W = .ok (.value (.slice (some ⟨W.heap.size, 0, none⟩) n n)) (W.alloc (.cells cs.toArray t)) := by intro W; kernel_rfl)
    (hn : ∀ b, a.put (some d) (.slice (some ⟨b, 0, none⟩) n n) = a3 b := by (intro b; simp only [Act.put, List.setIfInBounds_toArray, List.set_cons_succ, List.set_cons_zero]; rfl)) : wpList P ops Q (o :: rest) a w := by
  unfold wpList
  rw [if_pos hg]
  refine .inl ?_
  unfold Oper.wp
  rw [hr, Oper.upon_value, hd, hn]
  exact hK _ _ (Lib.hid (H.out.fresh ((Below.refl _ _).alloc (Nat.le_refl _) _) (Nat.le_refl _) (Blk.new _ _ _)))
end
/-- A literal row in the call's own blocks. -/
theorem RowIn.lit {e : TypeId} {size n g : Nat} {xs : List Value} (hl : xs.length = n * size) (hm : n ≤ maxLen) : RowIn [(g, e, xs)] e size (.slice (some ⟨g, 0, none⟩) n n) n xs :=
  ⟨xs, ⟨hl, .inr ⟨g, n, rfl, Nat.le_refl _, hm, hl, List.take_of_length_le (by rw [hl]; exact Nat.le_refl _)⟩⟩, by simp [rowE]⟩
theorem kBui {P : Program} {ops : Array Oper} {rest : List Oper} {a : Act} {w : World} {d : Option Tmp} {ty : TypeId} {po : String} {af : Array Edge} {g : Option (Nat × Bool)} {R : Act → Prop} {b : Builtin} {c : Array Operand} {ts : Array TypeId} (h : wpKeep P ops w R (⟨d, .call { callee := .builtin b, args := c, argTypes := ts }, ty, po, af, g⟩ :: rest) a) : wpKeep P ops w R (⟨d, .call { callee := .builtin b, args := c, argTypes := ts }, ty, po, af, g⟩ :: rest) a := h
theorem kskQ {P : Program} {ops : Array Oper} {rest : List Oper} {o : Oper} {a : Act} {w : World} {R : Act → Prop} {i : Nat} {b : Bool} (h : o.guard = some (i, b)) (hy : yielded ops a.tmps i = some (!b)) (hK : wpKeep P ops w R rest (a.put o.dst undef)) : wpKeep P ops w R (o :: rest) a := wpK_skip h hy hK
theorem str_ne {s x : ByteArray} (h : ¬ s = x) : (s.toList == x.toList) = false := by
  rw [ByteArray.toList_eq, ByteArray.toList_eq]
  rw [beq_eq_false_iff_ne]
  exact fun e => h (ba_ext e)
theorem str_eq {s x : ByteArray} (h : s = x) : (s.toList == x.toList) = true := by subst h; simp
/-- s is one of the texts ws. -/
def memS (s : ByteArray) (ws : List ByteArray) : Bool := ws.any fun x => s.toList == x.toList
theorem memS_iff {s : ByteArray} {ws : List ByteArray} : memS s ws = true ↔ s ∈ ws := by
  unfold memS
  rw [List.any_eq_true]
  constructor
  · rintro ⟨x, h1, h2⟩
    by_cases e : s = x
    · subst e; exact h1
    · rw [str_ne e] at h2; cases h2
  · intro h
    exact ⟨s, h, str_eq rfl⟩
theorem rangeAt_one {w : World} {b q : Nat} {v : Value} (h : w.rangeAt b q [v]) : w.cell? ⟨b, q, none⟩ = some v := h 0 v rfl
/-- Two lists are alike, element by element. -/
def All2 {α β : Type} (R : α → β → Prop) (l : List α) (m : List β) : Prop := l.length = m.length ∧ ∀ (j : Nat) (a : α) (b : β), l[j]? = some a → m[j]? = some b → R a b
theorem All2.mono {α β : Type} {R S : α → β → Prop} {l : List α} {m : List β} (h : All2 R l m) (hs : ∀ a b, R a b → S a b) : All2 S l m := ⟨h.1, fun j a b h1 h2 => hs _ _ (h.2 j a b h1 h2)⟩
theorem All2.nil {α β : Type} {R : α → β → Prop} : All2 R [] [] := ⟨rfl, fun j a b h => by simp at h⟩
theorem All2.snoc {α β : Type} {R : α → β → Prop} {l : List α} {m : List β} (h : All2 R l m) {a : α} {b : β} (hr : R a b) : All2 R (l ++ [a]) (m ++ [b]) := by
  refine ⟨by simp [h.1], fun j x y h1 h2 => ?_⟩
  rcases Nat.lt_trichotomy j l.length with hj | hj | hj
  · rw [List.getElem?_append_left hj] at h1
    rw [List.getElem?_append_left (by rw [← h.1]; exact hj)] at h2
    exact h.2 j x y h1 h2
  · subst hj
    simp at h1
    rw [h.1] at h2
    simp at h2
    subst h1; subst h2
    exact hr
  · rw [List.getElem?_eq_none (by simp; omega)] at h1
    cases h1
theorem All2.cons {α β : Type} {R : α → β → Prop} {l : List α} {m : List β} {a : α} {b : β} (hr : R a b) (h : All2 R l m) : All2 R (a :: l) (b :: m) := by
  refine ⟨by simp [h.1], fun j x y h1 h2 => ?_⟩
  cases j with
  | zero => simp at h1 h2; subst h1; subst h2; exact hr
  | succ j => exact h.2 j x y (by simpa using h1) (by simpa using h2)
theorem All2.append {α β : Type} {R : α → β → Prop} {l l' : List α} {m m' : List β} (h : All2 R l m) (h' : All2 R l' m') : All2 R (l ++ l') (m ++ m') := by
  refine ⟨by simp [h.1, h'.1], fun j x y h1 h2 => ?_⟩
  rcases Nat.lt_or_ge j l.length with hj | hj
  · rw [List.getElem?_append_left hj] at h1
    rw [List.getElem?_append_left (by rw [← h.1]; exact hj)] at h2
    exact h.2 j x y h1 h2
  · rw [List.getElem?_append_right hj] at h1
    rw [List.getElem?_append_right (by rw [← h.1]; exact hj), ← h.1] at h2
    exact h'.2 _ x y h1 h2
/-- The element of the second list beside one of the first. -/
theorem All2.at_ {α β : Type} {R : α → β → Prop} {l : List α} {m : List β} (h : All2 R l m) {j : Nat} {a : α} (ha : l[j]? = some a) : ∃ b, m[j]? = some b ∧ R a b := by
  have hj : j < m.length := by rw [← h.1]; exact (List.getElem?_eq_some_iff.1 ha).1
  exact ⟨m[j], List.getElem?_eq_getElem hj, h.2 j a _ ha (List.getElem?_eq_getElem hj)⟩
/-- A statement: its kind, names, tolerance, number and blocks. -/
inductive Stm
  | mk (k : Int) (a b : ByteArray) (wd : Option Rat) (n : Int) (bl : List (List Stm))
def Stm.k : Stm → Int | .mk k _ _ _ _ _ => k
def Stm.a : Stm → ByteArray | .mk _ a _ _ _ _ => a
def Stm.b : Stm → ByteArray | .mk _ _ b _ _ _ => b
def Stm.wd : Stm → Option Rat | .mk _ _ _ wd _ _ => wd
def Stm.n : Stm → Int | .mk _ _ _ _ n _ => n
def Stm.bl : Stm → List (List Stm) | .mk _ _ _ _ _ bl => bl
/-- A statement's cells. -/
structure Sv where
  k : Int
  a : ByteArray
  b : ByteArray
  wd : Option Rat
  n : Int
  bv : Value
def Sv.cells (x : Sv) : List Value := [.int .i64 x.k, .string x.a, .string x.b, .bool (sgO x.wd), .string (nuO x.wd), .string (deO x.wd), .int .i64 x.n, x.bv]
theorem Sv.len (x : Sv) : x.cells.length = 8 := rfl
def one (v : Value) : List Value := [v]
theorem one_len (v : Value) : (one v).length = 1 := rfl
/-- What any statement that lies in memory is: its numbers fit, its texts are not too long. -/
structure Sv.ok (v : Sv) : Prop where
  k : -9223372036854775808 ≤ v.k ∧ v.k ≤ 9223372036854775807
  n : -9223372036854775808 ≤ v.n ∧ v.n ≤ 9223372036854775807
  a : v.a.size ≤ maxLen
  b : v.b.size ≤ maxLen
  w : SmO v.wd
/-- The statement s, of at most d blocks within each other, lies in the blocks E. -/
def RSt (E : Ents) : Nat → Stm → Sv → Prop
  | 0, _, _ => False
  | d + 1, s, v => v.ok ∧ v.k = s.k ∧ v.a = s.a ∧ v.b = s.b ∧ v.wd = s.wd ∧ v.n = s.n ∧ ∃ bvs : List Value, RowIn E 56 1 v.bv bvs.length (flat one bvs) ∧
      All2 (fun b x => ∃ svs : List Sv, RowIn E 53 8 x svs.length (flat Sv.cells svs) ∧ All2 (RSt E d) b svs) s.bl bvs
/-- Statements in a row. -/
def RSs (E : Ents) (d : Nat) (l : List Stm) (x : Value) : Prop := ∃ svs : List Sv, RowIn E 53 8 x svs.length (flat Sv.cells svs) ∧ All2 (RSt E d) l svs
theorem RSt.ok {E : Ents} {d : Nat} {s : Stm} {v : Sv} (h : RSt E d s v) : v.ok := by cases d with | zero => exact h.elim | succ d => exact h.1
theorem RSt.bl {E : Ents} {d : Nat} {s : Stm} {v : Sv} (h : RSt E (d + 1) s v) : ∃ bvs : List Value, RowIn E 56 1 v.bv bvs.length (flat one bvs) ∧ All2 (RSs E d) s.bl bvs := h.2.2.2.2.2.2
theorem RSt.mono {E E' : Ents} (hs : ∀ x ∈ E, x ∈ E') : ∀ {d : Nat} {s : Stm} {v : Sv}, RSt E d s v → RSt E' d s v
  | 0, _, _, h => h
  | d + 1, _, _, ⟨h0, h1, h2, h3, h4, h5, bvs, h6, h7⟩ => ⟨h0, h1, h2, h3, h4, h5, bvs, h6.mono hs, h7.mono fun _ _ ⟨svs, g1, g2⟩ => ⟨svs, g1.mono hs, g2.mono fun _ _ g => RSt.mono hs g⟩⟩
theorem RSs.mono {E E' : Ents} (hs : ∀ x ∈ E, x ∈ E') {d : Nat} {l : List Stm} {x : Value} (h : RSs E d l x) : RSs E' d l x := by
  obtain ⟨svs, h1, h2⟩ := h
  exact ⟨svs, h1.mono hs, h2.mono fun _ _ g => RSt.mono hs g⟩
theorem rStm8 : RowT Tryd.prog 53 8 := ⟨⟨_, Tryd.underlying53, rfl⟩, by kernel_rfl⟩
theorem rJob : RowT Tryd.prog 58 2 := ⟨⟨_, Tryd.underlying58, rfl⟩, by kernel_rfl⟩
theorem rWks : RowT Tryd.prog 31 8 := ⟨⟨_, Tryd.underlying31, rfl⟩, by kernel_rfl⟩
theorem rRat : RowT Tryd.prog 29 3 := ⟨⟨_, Tryd.underlying29, rfl⟩, by kernel_rfl⟩
theorem rArm : RowT Tryd.prog 78 12 := ⟨⟨_, Tryd.underlying78, rfl⟩, by kernel_rfl⟩
theorem rPrt : RowT Tryd.prog 47 12 := ⟨⟨_, Tryd.underlying47, rfl⟩, by kernel_rfl⟩
theorem rSlo : RowT Tryd.prog 49 14 := ⟨⟨_, Tryd.underlying49, rfl⟩, by kernel_rfl⟩
theorem rGoa : RowT Tryd.prog 35 4 := ⟨⟨_, Tryd.underlying35, rfl⟩, by kernel_rfl⟩
theorem kInt : ∃ d, Tryd.prog.underlying 3 = some d ∧ d.isRow = false := ⟨_, Tryd.underlying3, rfl⟩
theorem sInt : (Tryd.prog.info? 3).map (·.size) = some 1 := by kernel_rfl
theorem kStr : ∃ d, Tryd.prog.underlying 9 = some d ∧ d.isRow = false := ⟨_, Tryd.underlying9, rfl⟩
theorem sStr : (Tryd.prog.info? 9).map (·.size) = some 1 := by kernel_rfl
theorem kBool : ∃ d, Tryd.prog.underlying 4 = some d ∧ d.isRow = false := ⟨_, Tryd.underlying4, rfl⟩
theorem sBool : (Tryd.prog.info? 4).map (·.size) = some 1 := by kernel_rfl
theorem kStl : ∃ d, Tryd.prog.underlying 56 = some d ∧ d.isRow = false := ⟨_, Tryd.underlying56, rfl⟩
theorem sStl : (Tryd.prog.info? 56).map (·.size) = some 1 := by kernel_rfl
theorem kBll : ∃ d, Tryd.prog.underlying 51 = some d ∧ d.isRow = false := ⟨_, Tryd.underlying51, rfl⟩
theorem sBll : (Tryd.prog.info? 51).map (·.size) = some 1 := by kernel_rfl
theorem kArl : ∃ d, Tryd.prog.underlying 23 = some d ∧ d.isRow = false := ⟨_, Tryd.underlying23, rfl⟩
theorem sArl : (Tryd.prog.info? 23).map (·.size) = some 1 := by kernel_rfl
theorem kPrl : ∃ d, Tryd.prog.underlying 25 = some d ∧ d.isRow = false := ⟨_, Tryd.underlying25, rfl⟩
theorem sPrl : (Tryd.prog.info? 25).map (·.size) = some 1 := by kernel_rfl
theorem kSll : ∃ d, Tryd.prog.underlying 26 = some d ∧ d.isRow = false := ⟨_, Tryd.underlying26, rfl⟩
theorem sSll : (Tryd.prog.info? 26).map (·.size) = some 1 := by kernel_rfl
theorem kGal : ∃ d, Tryd.prog.underlying 27 = some d ∧ d.isRow = false := ⟨_, Tryd.underlying27, rfl⟩
theorem sGal : (Tryd.prog.info? 27).map (·.size) = some 1 := by kernel_rfl
theorem zRat : (Tryd.prog.info? 29).bind (·.zero) = some (.agg #[.bool false, .string ⟨#[]⟩, .string ⟨#[]⟩]) := by kernel_rfl
theorem zGoa : (Tryd.prog.info? 35).bind (·.zero) = some (.agg #[.int .i64 0, .int .i64 0, .int .i64 0, .int .i64 0]) := by kernel_rfl
end Go.Proofs.YtbphdmnomakeoaaDoor

namespace Go.Proofs.YtbphdmnomakeoaaDoor
open Go.RowKit
set_option linter.unusedVariables false
set_option maxRecDepth 100000

/-- A number within the limits. -/
def smallQ (q : Rat) : Bool := decide ((nS q.num.natAbs).size ≤ 3) && (decide ((nS q.den).size ≤ 2) && (decide (cmpN q.num.natAbs 1000000 ≤ 0) && decide (cmpN q.den 1000 ≤ 0)))
set_option maxHeartbeats 4000000 in
theorem RSmall_any (q : Rat) (w : World) (hs : SmO (some q)) (hT : Tb w) :
    Calls Tryd.prog 66 #[.agg #[.bool (sgO (some q)), .string (nuO (some q)), .string (deO (some q))]] w fun e w' => e = .returned (.bool (smallQ q)) ∧ Below w.heap.size w w' := by
  have H := Lib.hid (Hp.start hT)
  have S := Lib.hid hs
  have hn : (nS q.num.natAbs).size ≤ 10000 := hs.n
  have hd : (nS q.den).size ≤ 10000 := hs.d
  obtain ⟨c1, e1⟩ : ∃ c, cmpN q.num.natAbs 1000000 = c := ⟨_, rfl⟩
  obtain ⟨c2, e2⟩ : ∃ c, cmpN q.den 1000 = c := ⟨_, rfl⟩
  obtain ⟨N, hN⟩ : ∃ N, nuO (some q) = N := ⟨_, rfl⟩
  obtain ⟨D, hD⟩ : ∃ D, deO (some q) = D := ⟨_, rfl⟩
  have k1 := Lib.hid e1
  have k2 := Lib.hid e2
  have HN := Lib.hid hN
  have HD := Lib.hid hD
  have R : Hid (smallQ q = (decide (N.size ≤ 3) && (decide (D.size ≤ 2) && (decide (c1 ≤ 0) && decide (c2 ≤ 0))))) := Lib.hid (by rw [← hN, ← hD, ← e1, ← e2]; rfl)
  rw [hN, hD, R.out]
  clear e1 e2 hN hD hT hs
  by_cases h1 : N.size ≤ 3
  · have d1 : decide ((N.size : Int) ≤ 3) = true := decide_eq_true (by omega)
    by_cases h2 : D.size ≤ 2
    · have d2 : decide ((D.size : Int) ≤ 2) = true := decide_eq_true (by omega)
      by_cases h3 : c1 ≤ 0
      · have d3 : decide (c1 ≤ 0) = true := decide_eq_true h3
        go_enter Tryd.func66, Tryd.ntmps66
        go_wp2_with (first
            | go_skip
            | ((with_reducible refine isBox ?_); refine bxA H ?_; clear H; intro _ _ H))
        refine wp_region_E H (by kernel_rfl) (by kernel_rfl) ?_
        repeat (first
            | ((with_reducible refine kBui ?_); refine wpK_step (fun K hK => ?_); go_simp; refine hK _ ?_; clear hK K)
            | (refine kskA ?_)
            | ((with_reducible refine kLoad ?_); refine kldA H ?_)
            | ((with_reducible refine kLoad ?_); refine kld1A H ?_)
            | ((fail_if_success (with_reducible refine kCall ?_)); (with_reducible refine kCons ?_); refine wpK_step (fun K hK => ?_); go_simp; refine hK _ ?_; clear hK K))
        refine wpK_step (fun K hK => ?_)
        go_simp
        apply Exists.intro
        refine ⟨fun sx => ?_, hK _ ?_⟩
        · go_at_call 47
          exact by rw [← HN.out, ← HD.out]; exact Good_any (some q) _ S.out (H.out.tbx sx)
        clear hK K
        repeat (first
            | ((with_reducible refine kBui ?_); refine wpK_step (fun K hK => ?_); go_simp; refine hK _ ?_; clear hK K)
            | (refine kskA ?_)
            | ((with_reducible refine kLoad ?_); refine kldA H ?_)
            | ((with_reducible refine kLoad ?_); refine kld1A H ?_)
            | ((fail_if_success (with_reducible refine kCall ?_)); (with_reducible refine kCons ?_); refine wpK_step (fun K hK => ?_); go_simp; refine hK _ ?_; clear hK K))
        refine wpK_step (fun K hK => ?_)
        go_simp
        apply Exists.intro
        refine ⟨fun sx => ?_, hK _ ?_⟩
        · go_at_call 76
          exact natOf_any 1000000 _ (by decide)
        clear hK K
        repeat (first
            | ((with_reducible refine kBui ?_); refine wpK_step (fun K hK => ?_); go_simp; refine hK _ ?_; clear hK K)
            | (refine kskA ?_)
            | ((with_reducible refine kLoad ?_); refine kldA H ?_)
            | ((with_reducible refine kLoad ?_); refine kld1A H ?_)
            | ((fail_if_success (with_reducible refine kCall ?_)); (with_reducible refine kCons ?_); refine wpK_step (fun K hK => ?_); go_simp; refine hK _ ?_; clear hK K))
        refine wpK_step (fun K hK => ?_)
        go_simp
        apply Exists.intro
        refine ⟨fun sx => ?_, hK _ ?_⟩
        · go_at_call 36
          exact by rw [← HN.out]; exact (Cmp_any q.num.natAbs 1000000 c1 _ (by omega) (by decide +kernel) k1).mono fun _ _ h => ⟨h.1, h.2 ▸ Below.refl _ _⟩
        clear hK K
        repeat (first
            | ((with_reducible refine kBui ?_); refine wpK_step (fun K hK => ?_); go_simp; refine hK _ ?_; clear hK K)
            | (refine kskA ?_)
            | ((with_reducible refine kLoad ?_); refine kldA H ?_)
            | ((with_reducible refine kLoad ?_); refine kld1A H ?_)
            | ((fail_if_success (with_reducible refine kCall ?_)); (with_reducible refine kCons ?_); refine wpK_step (fun K hK => ?_); go_simp; refine hK _ ?_; clear hK K))
        refine wpK_step (fun K hK => ?_)
        go_simp
        apply Exists.intro
        refine ⟨fun sx => ?_, hK _ ?_⟩
        · go_at_call 76
          exact natOf_any 1000 _ (by decide)
        clear hK K
        repeat (first
            | ((with_reducible refine kBui ?_); refine wpK_step (fun K hK => ?_); go_simp; refine hK _ ?_; clear hK K)
            | (refine kskA ?_)
            | ((with_reducible refine kLoad ?_); refine kldA H ?_)
            | ((with_reducible refine kLoad ?_); refine kld1A H ?_)
            | ((fail_if_success (with_reducible refine kCall ?_)); (with_reducible refine kCons ?_); refine wpK_step (fun K hK => ?_); go_simp; refine hK _ ?_; clear hK K))
        refine wpK_step (fun K hK => ?_)
        go_simp
        apply Exists.intro
        refine ⟨fun sx => ?_, hK _ ?_⟩
        · go_at_call 36
          exact by rw [← HD.out]; exact (Cmp_any q.den 1000 c2 _ (by omega) (by decide +kernel) k2).mono fun _ _ h => ⟨h.1, h.2 ▸ Below.refl _ _⟩
        clear hK K
        repeat (first
            | ((with_reducible refine kBui ?_); refine wpK_step (fun K hK => ?_); go_simp; refine hK _ ?_; clear hK K)
            | (refine kskA ?_)
            | ((with_reducible refine kLoad ?_); refine kldA H ?_)
            | ((with_reducible refine kLoad ?_); refine kld1A H ?_)
            | ((fail_if_success (with_reducible refine kCall ?_)); (with_reducible refine kCons ?_); refine wpK_step (fun K hK => ?_); go_simp; refine hK _ ?_; clear hK K))
        refine wpKeep_nil ?_
        clear H
        intro _ H
        go_wp2_with (first
            | go_skip
            | ((with_reducible refine isBox ?_); refine bxA H ?_; clear H; intro _ _ H))
        go_ret
        exact ⟨by simp [*], H.out.bel⟩
      · have d3 : decide (c1 ≤ 0) = false := decide_eq_false h3
        go_enter Tryd.func66, Tryd.ntmps66
        go_wp2_with (first
            | go_skip
            | ((with_reducible refine isBox ?_); refine bxA H ?_; clear H; intro _ _ H))
        refine wp_region_E H (by kernel_rfl) (by kernel_rfl) ?_
        repeat (first
            | ((with_reducible refine kBui ?_); refine wpK_step (fun K hK => ?_); go_simp; refine hK _ ?_; clear hK K)
            | (refine kskA ?_)
            | ((with_reducible refine kLoad ?_); refine kldA H ?_)
            | ((with_reducible refine kLoad ?_); refine kld1A H ?_)
            | ((fail_if_success (with_reducible refine kCall ?_)); (with_reducible refine kCons ?_); refine wpK_step (fun K hK => ?_); go_simp; refine hK _ ?_; clear hK K))
        refine wpK_step (fun K hK => ?_)
        go_simp
        apply Exists.intro
        refine ⟨fun sx => ?_, hK _ ?_⟩
        · go_at_call 47
          exact by rw [← HN.out, ← HD.out]; exact Good_any (some q) _ S.out (H.out.tbx sx)
        clear hK K
        repeat (first
            | ((with_reducible refine kBui ?_); refine wpK_step (fun K hK => ?_); go_simp; refine hK _ ?_; clear hK K)
            | (refine kskA ?_)
            | ((with_reducible refine kLoad ?_); refine kldA H ?_)
            | ((with_reducible refine kLoad ?_); refine kld1A H ?_)
            | ((fail_if_success (with_reducible refine kCall ?_)); (with_reducible refine kCons ?_); refine wpK_step (fun K hK => ?_); go_simp; refine hK _ ?_; clear hK K))
        refine wpK_step (fun K hK => ?_)
        go_simp
        apply Exists.intro
        refine ⟨fun sx => ?_, hK _ ?_⟩
        · go_at_call 76
          exact natOf_any 1000000 _ (by decide)
        clear hK K
        repeat (first
            | ((with_reducible refine kBui ?_); refine wpK_step (fun K hK => ?_); go_simp; refine hK _ ?_; clear hK K)
            | (refine kskA ?_)
            | ((with_reducible refine kLoad ?_); refine kldA H ?_)
            | ((with_reducible refine kLoad ?_); refine kld1A H ?_)
            | ((fail_if_success (with_reducible refine kCall ?_)); (with_reducible refine kCons ?_); refine wpK_step (fun K hK => ?_); go_simp; refine hK _ ?_; clear hK K))
        refine wpK_step (fun K hK => ?_)
        go_simp
        apply Exists.intro
        refine ⟨fun sx => ?_, hK _ ?_⟩
        · go_at_call 36
          exact by rw [← HN.out]; exact (Cmp_any q.num.natAbs 1000000 c1 _ (by omega) (by decide +kernel) k1).mono fun _ _ h => ⟨h.1, h.2 ▸ Below.refl _ _⟩
        clear hK K
        repeat (first
            | ((with_reducible refine kBui ?_); refine wpK_step (fun K hK => ?_); go_simp; refine hK _ ?_; clear hK K)
            | (refine kskA ?_)
            | ((with_reducible refine kLoad ?_); refine kldA H ?_)
            | ((with_reducible refine kLoad ?_); refine kld1A H ?_)
            | ((fail_if_success (with_reducible refine kCall ?_)); (with_reducible refine kCons ?_); refine wpK_step (fun K hK => ?_); go_simp; refine hK _ ?_; clear hK K))
        refine wpKeep_nil ?_
        clear H
        intro _ H
        go_wp2_with (first
            | go_skip
            | ((with_reducible refine isBox ?_); refine bxA H ?_; clear H; intro _ _ H))
        go_ret
        exact ⟨by simp [*], H.out.bel⟩
    · have d2 : decide ((D.size : Int) ≤ 2) = false := decide_eq_false (by omega)
      go_enter Tryd.func66, Tryd.ntmps66
      go_wp2_with (first
          | go_skip
          | ((with_reducible refine isBox ?_); refine bxA H ?_; clear H; intro _ _ H))
      refine wp_region_E H (by kernel_rfl) (by kernel_rfl) ?_
      repeat (first
          | ((with_reducible refine kBui ?_); refine wpK_step (fun K hK => ?_); go_simp; refine hK _ ?_; clear hK K)
          | (refine kskA ?_)
          | ((with_reducible refine kLoad ?_); refine kldA H ?_)
          | ((with_reducible refine kLoad ?_); refine kld1A H ?_)
          | ((fail_if_success (with_reducible refine kCall ?_)); (with_reducible refine kCons ?_); refine wpK_step (fun K hK => ?_); go_simp; refine hK _ ?_; clear hK K))
      refine wpKeep_nil ?_
      clear H
      intro _ H
      go_wp2_with (first
          | go_skip
          | ((with_reducible refine isBox ?_); refine bxA H ?_; clear H; intro _ _ H))
      go_ret
      exact ⟨by simp [*], H.out.bel⟩
  · have d1 : decide ((N.size : Int) ≤ 3) = false := decide_eq_false (by omega)
    go_enter Tryd.func66, Tryd.ntmps66
    go_wp2_with (first
        | go_skip
        | ((with_reducible refine isBox ?_); refine bxA H ?_; clear H; intro _ _ H))
    refine wp_region_E H (by kernel_rfl) (by kernel_rfl) ?_
    repeat (first
        | ((with_reducible refine kBui ?_); refine wpK_step (fun K hK => ?_); go_simp; refine hK _ ?_; clear hK K)
        | (refine kskA ?_)
        | ((with_reducible refine kLoad ?_); refine kldA H ?_)
        | ((with_reducible refine kLoad ?_); refine kld1A H ?_)
        | ((fail_if_success (with_reducible refine kCall ?_)); (with_reducible refine kCons ?_); refine wpK_step (fun K hK => ?_); go_simp; refine hK _ ?_; clear hK K))
    refine wpKeep_nil ?_
    clear H
    intro _ H
    go_wp2_with (first
        | go_skip
        | ((with_reducible refine isBox ?_); refine bxA H ?_; clear H; intro _ _ H))
    go_ret
    exact ⟨by simp [*], H.out.bel⟩
end Go.Proofs.YtbphdmnomakeoaaDoor
