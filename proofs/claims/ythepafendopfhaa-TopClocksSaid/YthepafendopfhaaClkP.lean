/- TopClocks: plain laws. No walk. Printed by gen/clk.py. -/
import Derived.Test.YthepafendopfhaaHmB
import Derived.Test.YthepafendopfhaaClkU
import Derived.Test.YthepafendopfhaaMakeB
import Derived.Lib.MinMax
namespace Go.Proofs.Ythepafendopfhaa
open Go.RowKit
set_option linter.unusedVariables false
set_option maxRecDepth 100000

/-- Faults that came in. -/
structure FltA (w : World) (A : Option Addr) (n : Nat) (F : List Flt) : Prop where
  len : F.length = n
  ok : ∀ x ∈ F, (-9223372036854775808 ≤ x.t ∧ x.t ≤ 9223372036854775807) ∧ (-9223372036854775808 ≤ x.k ∧ x.k ≤ 9223372036854775807) ∧ (-9223372036854775808 ≤ x.n ∧ x.n ≤ 9223372036854775807)
  at_ : 0 < n → ∃ b off, A = some ⟨b, off, none⟩ ∧ b < w.heap.size ∧ ∀ j x, F[j]? = some x → w.rangeAt b (off + j * 3) x.cells
/-- What TopClocks makes of a fault. -/
def Flt.red (x : Flt) : Flt := ⟨x.t % 60, x.k % 6, x.n % 4⟩
section
variable {P : Program} {ops : Array Oper} {rest : List Oper} {o : Oper} {a a2 : Act} {w0 w : World} {l : Ents} {Q : Exit → Act → World → Prop}
theorem rangeAt_below {b off : Nat} {cs : List Value} (h : w0.rangeAt b off cs) (hb : Below w0.heap.size w0 w) (hlt : b < w0.heap.size) : w.rangeAt b off cs := fun j v hv => (hb.cell (p := ⟨b, off + j, none⟩) hlt).trans (h j v hv)
/-- A load of a struct that came in. -/
theorem ldG {b q k : Nat} {cs : List Value} (hr : Hid (w.rangeAt b q cs)) {t : TypeId} {p : Operand} (hK : wpList P ops Q rest a2 w) (hT : RowT P t k) (hl : cs.length = k := by rfl) (ho : o.op = .load t p := by rfl) (hg : Region.wanted o (yielded ops a.tmps) = true := by first | exact wanted_none rfl | exact wanted_some rfl rfl) (hp : a.eval p = .pointer (some ⟨b, q, none⟩) := by rfl)
    (hn : a.put o.dst (.agg cs.toArray) = a2 := by (simp only [Act.put, List.setIfInBounds_toArray, List.set_cons_succ, List.set_cons_zero]; rfl)) : wpList P ops Q (o :: rest) a w := by
  subst hn
  obtain ⟨d, h1, h2⟩ := hT.u
  refine wpList_step fun K hK' => ?_
  rw [if_pos hg]
  exact wp_load_mid t p ho b q hp cs d hr.out h1 h2 (by rw [hT.s, hl]) (hK' _ _ hK)
end
/-- A map of n entries whose keys lie below t. -/
def TMo (ob : Obj) (t : Int) (n : Nat) : Prop := ∃ D : DataW Unit, (∀ (w : World) (b : Nat), w.heap[b]? = some ob → w.ownsMap Try.prog 3 (plainElem (H := Unit) Try.prog 3) b n D) ∧ Maps.size D = n ∧ ∀ x : Int, t ≤ x → Maps.has D (.int .i64 x) = false
theorem ownsMap_any {P : Program} {k : TypeId} {R : Value → Option (DataW Unit × List MemPlace)} {w : World} {b n : Nat} {D : DataW Unit} {ob : Obj} (h : w.ownsMap P k R b n D) (hb : w.heap[b]? = some ob) (w' : World) (b' : Nat) (hb' : w'.heap[b']? = some ob) : w'.ownsMap P k R b' n D := by
  obtain ⟨es, cl, h1, h2⟩ := h
  rw [hb] at h1
  injection h1 with h1
  subst h1
  exact ⟨es, cl, hb', h2⟩
theorem TMo.made (t : Int) : TMo (.map #[] 0) t 0 := by
  refine ⟨.map [], fun w b hb => ?_, rfl, fun x _ => rfl⟩
  exact ownsMap_any (World.ownsMap_made w _ _ _) (MapKept.heap_alloc w _).1 w b hb
theorem kII : Maps.Keyed Try.prog 3 := Go.Maps.int_keyed Try.underlying3
theorem iFlt : InfoT Try.prog 30 3 24 := .of zFlt (by kernel_rfl) rfl
theorem Hm.ofArg {w0 w : World} {l : Ents} {b : Nat} {ob : Obj} (h : Hp w0 w l) (hlt : b < w0.heap.size) (hob : w0.heap[b]? = some ob) : Hm w0 w b ob l := ⟨h, (h.bel.block b hlt).trans hob, fun x hx e => by
  have := (h.blk x hx).1
  omega⟩
section
variable {ops : Array Oper} {rest : List Oper} {o : Oper} {a a2 : Act} {w0 w : World} {l : Ents} {Q : Exit → Act → World → Prop} {M : Nat} {ob : Obj}
theorem upM {t u : Int} {n : Nat} (H : Hid (Hm w0 w M ob l)) (T : Hid (TMo ob t n)) (hM : w0.heap.size ≤ M) (hn : n ≤ 1000) (ht : (Lit.int .i64 t).wf = true) (hu : (Lit.int .i64 u).wf = true) {m x v : Operand} {ty : TypeId}
    (hK : ∀ ob' W', Hid (TMo ob' (t + 1) (n + 1)) → Hid (Hm w0 W' M ob' l) → wpList Try.prog ops Q rest (a.put o.dst undef) W')
    (hty : Try.prog.underlying ty = some (.map 3 3)) (hg : o.guard = none := by rfl) (ho : o.op = .mapUpdate ty m x v := by rfl) (hm : a.eval m = .map (some M) := by rfl) (hx : a.eval x = .int .i64 t := by rfl) (hv : a.eval v = .int .i64 u := by rfl) : wpList Try.prog ops Q (o :: rest) a w := by
  obtain ⟨D, h1, h2, h3⟩ := T.out
  have hown := h1 w M H.out.mp
  refine wpList_mapUpdate_own w hg m x v ty ho 3 3 kII hty _ M n D hm hown (by unfold maxLen; omega) _ _ (.int .i64 t) hx hv (by simp [keyOf, mapKey, Try.underlying3, ht]) (.lit (.int .i64 u)) [] (plainElem_int Try.underlying3 hu) fun w' h4 h5 => ?_
  obtain ⟨es, cl, h6, _⟩ := h4.imp fun _ h => h
  refine hK _ w' (Lib.hid ⟨_, fun w2 b2 hb2 => ownsMap_any h4 h6 w2 b2 hb2, ?_, fun y hy => ?_⟩) (Lib.hid (H.out.turned h5 h6 hM))
  · rw [Maps.size_put (hown.tidy kII), h3 t (Int.le_refl _), h2]
    rfl
  · rw [Maps.has_put_other (by simp; omega)]
    exact h3 y (by omega)
end
/-- A message that a controller has sent, whose clock has lost little. -/
def Gd (lost : Int) (m : Ms) : Prop := 0 ≤ m.s ∧ m.s < 60 ∧ ∃ L : Int, 0 ≤ L ∧ L ≤ lost ∧ m.c = (7 + m.s - L) % 4294967296
theorem gd_law {lost : Int} {x y : Ms} (hx : Gd lost x) (hy : Gd lost y) (h0 : 0 ≤ lost) (h9 : lost ≤ 9) (h : lost < diffP y.c x.c) : x.s < y.s := by
  obtain ⟨a1, a2, L, a3, a4, a5⟩ := hx
  obtain ⟨b1, b2, K, b3, b4, b5⟩ := hy
  rw [a5, b5, diffP_of (by omega) (by omega)] at h
  omega
theorem ms_all (l : List Ms) : (flat Ms.cells l).all (·.oneCell') = true := by
  induction l with
  | nil => rfl
  | cons x l ih =>
    have : flat Ms.cells (x :: l) = x.cells ++ flat Ms.cells l := by simp [flat]
    rw [this, List.all_append, ih]
    rfl
theorem TMo.up {ob : Obj} {t : Int} {n : Nat} (h : TMo ob t n) : TMo ob (t + 1) n := by
  obtain ⟨D, h1, h2, h3⟩ := h
  exact ⟨D, h1, h2, fun x hx => h3 x (by omega)⟩
theorem gap_eq {t L : Int} (h0 : 0 ≤ t) (h1 : t ≤ 60) (h2 : 0 ≤ L) (h3 : L ≤ 12) : diffP ((7 + t) % 4294967296) (afterP 7 (t - L)) = L := by
  have e : afterP 7 (t - L) = (7 + (t - L)) % 4294967296 := by unfold afterP; omega
  rw [e, diffP_of (by omega) (by omega)]
  omega
section
variable {P : Program} {ops : Array Oper} {rest : List Oper} {o : Oper} {a a2 : Act} {w0 w : World} {l : Ents} {Q : Exit → Act → World → Prop}
/-- A load of a cell that came in. -/
theorem ld1G {b q : Nat} {v : Value} (hr : Hid (w.cell? ⟨b, q, none⟩ = some v)) {t : TypeId} {p : Operand} (hK : wpList P ops Q rest a2 w) (hT : ∃ d, P.underlying t = some d ∧ d.isRow = false) (ho : o.op = .load t p := by rfl) (hg : Region.wanted o (yielded ops a.tmps) = true := by first | exact wanted_none rfl | exact wanted_some rfl rfl) (hp : a.eval p = .pointer (some ⟨b, q, none⟩) := by rfl)
    (hn : a.put o.dst v = a2 := by (simp only [Act.put, List.setIfInBounds_toArray, List.set_cons_succ, List.set_cons_zero]; rfl)) : wpList P ops Q (o :: rest) a w := by
  subst hn
  obtain ⟨d, h1, h2⟩ := hT
  refine wpList_step fun K hK' => ?_
  rw [if_pos hg]
  unfold Oper.wp execOp
  have hagg : (isAgg t).run P w = .ok false w := by
    unfold isAgg
    rw [Sem.run_bind, run_underlying h1 w]
    cases d <;> simp_all
  simp only [ho, hp, Instr.loadAt, Instr.sureAddr, loadVar, Sem.run_bind, Sem.run_pure, Result.andThen_ok, hagg]
  have hc := hr.out
  simp [hc, go_sem]
  exact hK' _ _ hK
end
theorem gap2 {t L : Int} {cl : Int} (h : Hid (afterP 7 (t - L) = cl)) (h0 : 0 ≤ t) (h1 : t ≤ 60) (h2 : 0 ≤ L) (h3 : L ≤ 12) : diffP (7 + t) cl = L := by
  have := gap_eq h0 h1 h2 h3
  rwa [h.out, Int.emod_eq_of_lt (by omega) (by omega)] at this
theorem wf_of {a : Int} (h1 : -9223372036854775808 ≤ a) (h2 : a ≤ 9223372036854775807) : (Lit.int .i64 a).wf = true := by
  simp [Lit.wf, IntKind.min, IntKind.max, IntKind.signed, IntKind.bits]
  omega
theorem isMapU {P : Program} {ops : Array Oper} {rest : List Oper} {a : Act} {w : World} {Q : Exit → Act → World → Prop} {d : Option Tmp} {ty : TypeId} {po : String} {af : Array Edge} {g : Option (Nat × Bool)} {t : TypeId} {m x v : Operand} (h : wpList P ops Q (⟨d, .mapUpdate t m x v, ty, po, af, g⟩ :: rest) a w) : wpList P ops Q (⟨d, .mapUpdate t m x v, ty, po, af, g⟩ :: rest) a w := h
theorem isLenB {P : Program} {ops : Array Oper} {rest : List Oper} {a : Act} {w : World} {Q : Exit → Act → World → Prop} {d : Option Tmp} {ty : TypeId} {po : String} {af : Array Edge} {g : Option (Nat × Bool)} {c : Array Operand} {ts : Array TypeId} (h : wpList P ops Q (⟨d, .call { callee := .builtin .len, args := c, argTypes := ts }, ty, po, af, g⟩ :: rest) a w) : wpList P ops Q (⟨d, .call { callee := .builtin .len, args := c, argTypes := ts }, ty, po, af, g⟩ :: rest) a w := h
theorem lenM {ops : Array Oper} {rest : List Oper} {o : Oper} {a : Act} {w0 w : World} {l : Ents} {Q : Exit → Act → World → Prop} {M : Nat} {ob : Obj} {t : Int} {n : Nat} (H : Hid (Hm w0 w M ob l)) (T : Hid (TMo ob t n)) {m : Operand} {ty : TypeId} (hK : wpList Try.prog ops Q rest (a.put o.dst (.int .i64 n)) w)
    (ho : o.op = .call { callee := .builtin .len, args := #[m], argTypes := #[ty] } := by rfl) (hm : a.eval m = .map (some M) := by rfl) (hty : Try.prog.underlying ty = some (.map 3 3) := by exact Try.underlying33) (hg : o.guard = none := by rfl) : wpList Try.prog ops Q (o :: rest) a w := by
  obtain ⟨D, h1, h2, h3⟩ := T.out
  exact wpList_len_own w hg m ty ho _ _ hty _ M n D hm (h1 w M H.out.mp) (by rw [h2]; exact hK)
theorem after_eq {n : Int} : afterP 7 n = (7 + n) % 4294967296 := by unfold afterP; omega
end Go.Proofs.Ythepafendopfhaa
