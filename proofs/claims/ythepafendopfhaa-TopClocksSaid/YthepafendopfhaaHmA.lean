/- A block of any kind (a map) beside the list of blocks: the laws that change blocks. No walk. -/
import Derived.Test.YthepafendopfhaaUniX
import Derived.Test.YthepafendopfhaaClkM
namespace Go.Proofs.Ythepafendopfhaa
open Go.RowKit
set_option linter.unusedVariables false
set_option maxRecDepth 100000

theorem InfoT.of {P : Program} {e : TypeId} {size bytes : Nat} {z : Value} (h1 : (P.info? e).bind (·.zero) = some z) (h2 : (P.info? e).map (fun i => (i.size, i.bytes)) = some (size, bytes)) (h3 : z.cells.size = size) : InfoT P e size bytes := by
  cases hi : P.info? e with
  | none => simp [hi] at h1
  | some i =>
    simp [hi] at h1 h2
    exact ⟨i, z, hi, h1, h2.1, h2.2, h3⟩
theorem RowV.shape {k n : Nat} {v : Value} {xs cur : List Value} (h : RowV k v n xs cur) : ∃ B c, v = .slice B n c ∧ c ≤ maxLen := by
  rcases h.or_ with ⟨rfl, rfl⟩ | ⟨g, cap, rfl, _, h2, _⟩
  · exact ⟨none, 0, rfl, by simp [maxLen]⟩
  · exact ⟨_, _, rfl, h2⟩
theorem RowV.len_ {α : Type} {enc : α → List Value} {k n : Nat} {v : Value} {xs : List α} {cur : List Value} (hk : ∀ x, (enc x).length = k) (h : RowV k v n (flat enc xs) cur) (hp : 0 < k) : xs.length = n :=
  Nat.eq_of_mul_eq_mul_right hp (by rw [← flat_len hk xs]; exact h.len)
theorem flat_snoc {α : Type} {enc : α → List Value} {xs : List α} {j : Nat} {x : α} (h : xs[j]? = some x) : flat enc (xs.take (j + 1)) = flat enc (xs.take j) ++ enc x := by
  obtain ⟨hj, rfl⟩ := List.getElem?_eq_some_iff.1 h
  rw [List.take_succ_eq_append_getElem hj, flat_append, flat_one]
section
variable {w0 w w' : World} {l l' : Ents} {M : Nat} {ob : Obj}
theorem Hm.go (h : Hm w0 w M ob l) (hb : Below w.heap.size w w') : Hm w0 w' M ob l := ⟨h.hp.go hb, (hb.block M h.lt).trans h.mp, h.out⟩
theorem Hm.perm (h : Hm w0 w M ob l) (hp : l.Perm l') : Hm w0 w M ob l' := ⟨h.hp.perm hp, h.mp, fun x hx => h.out x (hp.mem_iff.2 hx)⟩
theorem Hm.sub (h : Hm w0 w M ob l) (hs : l'.Sublist l) : Hm w0 w M ob l' := ⟨h.hp.sub hs, h.mp, fun x hx => h.out x (hs.subset hx)⟩
theorem Hm.drop {x : Nat × TypeId × List Value} (h : Hm w0 w M ob (x :: l)) : Hm w0 w M ob l := ⟨h.hp.drop, h.mp, fun y hy => h.out y (.tail _ hy)⟩
theorem Hm.fresh (h : Hm w0 w M ob l) (hb : Below w.heap.size w w') {b : Nat} {t : TypeId} {cs : List Value} (hg : w.heap.size ≤ b) (hk : Blk w' b t cs.toArray) : Hm w0 w' M ob ((b, t, cs) :: l) :=
  ⟨h.hp.fresh hb hg hk, (hb.block M h.lt).trans h.mp, fun x hx => by
    rcases List.mem_cons.1 hx with rfl | hx
    · have := h.lt
      exact fun e => by simp only at e; omega
    · exact h.out x hx⟩
theorem Hm.stored {b : Nat} {T : TypeId} {cs ds : List Value} (h : Hm w0 w M ob l) (hu : Upd l b T cs ds l') (hz : BelowZ b w w') (hk : Blk w' b T ds.toArray) : Hm w0 w' M ob l' :=
  ⟨h.hp.stored hu hz hk, (hz.block M h.lt (fun e => h.out _ hu.mem e.symm)).trans h.mp, hu.all (p := fun x => x.1 ≠ M) (q := fun x => x.1 ≠ M) h.hp.nd (fun _ _ _ h => h) (show b ≠ M from h.out (b, T, cs) hu.mem) h.out⟩
theorem Hm.chg {z : Nat} (h : Hm w0 w M ob l) (h2 : Hp w0 w' l') (c : Chg w w' l l' z) : Hm w0 w' M ob l' :=
  have hz : z ≠ M := by
    rcases c.old with e | ⟨x, hx, e⟩
    · have := h.lt
      omega
    · rw [← e]; exact h.out x hx
  ⟨h2, (c.keep M h.lt (Ne.symm hz)).trans h.mp, fun x hx e => h.out x (c.sub x hx (by rw [e]; exact Ne.symm hz)) e⟩
/-- What a call has made joins what its caller has. -/
theorem Hp.join {m : Ents} (h : Hp w0 w l) (h2 : Hp w w' m) : Hp w0 w' (m ++ l) := by
  have h3 := h.go h2.bel
  refine ⟨fun x hx => ?_, ?_, h3.bel, h.t0⟩
  · rcases List.mem_append.1 hx with hx | hx
    · exact ⟨Nat.le_trans h.bel.size (h2.blk x hx).1, (h2.blk x hx).2⟩
    · exact h3.blk x hx
  · rw [List.map_append, List.nodup_append]
    refine ⟨h2.nd, h.nd, fun a ha b hb e => ?_⟩
    obtain ⟨x, hx, rfl⟩ := List.mem_map.1 ha
    obtain ⟨y, hy, rfl⟩ := List.mem_map.1 hb
    have := (h2.blk x hx).1
    have := h.lt hy
    omega
end
section
variable {P : Program} {ops : Array Oper} {rest : List Oper} {o : Oper} {a a2 : Act} {w0 w : World} {l l' : Ents} {Q : Exit → Act → World → Prop} {M : Nat} {ob : Obj}
theorem okI {x y : Int} {W : World} (h : x = y) : Result.ok (Next.value (.int .i64 x)) W = Result.ok (Next.value (.int .i64 y)) W := by rw [h]
theorem isSlc {d : Option Tmp} {ty : TypeId} {po : String} {af : Array Edge} {g : Option (Nat × Bool)} {t : TypeId} {n : Nat} {ps : Array (Nat × Operand)} (h : wpList P ops Q (⟨d, .buildSlice t n ps, ty, po, af, g⟩ :: rest) a w) : wpList P ops Q (⟨d, .buildSlice t n ps, ty, po, af, g⟩ :: rest) a w := h
theorem isApp {d : Option Tmp} {ty : TypeId} {po : String} {af : Array Edge} {g : Option (Nat × Bool)} {c : Array Operand} {ts : Array TypeId} (h : wpList P ops Q (⟨d, .call { callee := .builtin .append, args := c, argTypes := ts }, ty, po, af, g⟩ :: rest) a w) : wpList P ops Q (⟨d, .call { callee := .builtin .append, args := c, argTypes := ts }, ty, po, af, g⟩ :: rest) a w := h
theorem stM (H : Hid (Hm w0 w M ob l)) {t T : TypeId} {p x : Operand} {b k n : Nat} {cs vs ds : List Value} (hK : ∀ W', Hid (Hm w0 W' M ob l') → wpList P ops Q rest a W') (ho : o.op = .store t p x := by rfl) (hT : RowT P t n := by assumption) (hg : o.guard = none := by rfl) (hd : o.dst = none := by rfl) (hp : a.eval p = .pointer (some ⟨b, k, none⟩) := by rfl) (hx : a.eval x = .agg vs.toArray := by rfl)
    (hu : Upd l b T cs ds l' := by repeat (first | apply Upd.head | apply Upd.tail | assumption)) (hl : vs.length = n := by rfl) (hc : cs.take k ++ vs ++ cs.drop (k + n) = ds := by (simp only [List.drop, List.take, List.nil_append, List.cons_append]; rfl)) (hk : k + n ≤ cs.length := by exact Nat.le_of_ble_eq_true rfl) (h1 : vs.all (·.oneCell') = true := by rfl) : wpList P ops Q (o :: rest) a w :=
  wpList_storeB ho hg hd hT hp hx (H.out.hp.get hu.mem) hl (by simpa using hk) h1 (by simpa using hc) fun W' hz hb => hK W' (Lib.hid (H.out.stored hu hz hb.out))
theorem st1M (H : Hid (Hm w0 w M ob l)) {t T : TypeId} {p x : Operand} {b k : Nat} {cs ds : List Value} {v : Value} (hK : ∀ W', Hid (Hm w0 W' M ob l') → wpList P ops Q rest a W') (ho : o.op = .store t p x := by rfl) (hT : (P.info? t).map (·.size) = some 1 := by assumption) (hg : o.guard = none := by rfl) (hd : o.dst = none := by rfl) (hp : a.eval p = .pointer (some ⟨b, k, none⟩) := by rfl) (hx : a.eval x = v := by rfl)
    (hu : Upd l b T cs ds l' := by repeat (first | apply Upd.head | apply Upd.tail | assumption)) (hc : cs.set k v = ds := by (simp only [List.set_cons_succ, List.set_cons_zero]; rfl)) (hk : k < cs.length := by exact Nat.le_of_ble_eq_true rfl) (h1 : v.oneCell' = true := by rfl) (hv : v.cells = #[v] := by rfl) : wpList P ops Q (o :: rest) a w :=
  wpList_storeC ho hg hd hT hp hx (H.out.hp.get hu.mem) (by simpa using hk) h1 hv (by simpa using hc) fun W' hz hb => hK W' (Lib.hid (H.out.stored hu hz hb.out))
theorem bxM (H : Hid (Hm w0 w M ob l)) {t : TypeId} {x : Operand} {d : Tmp} {v : Value} {cs : List Value} {a3 : Nat → Act} (hK : ∀ (b : Nat) W', Hid (Hm w0 W' M ob ((b, t, cs) :: l)) → wpList P ops Q rest (a3 b) W') (ho : o.op = .box t x := by rfl) (hg : o.guard = none := by rfl) (hd : o.dst = some d := by rfl) (hx : a.eval x = v := by (go_simp; rfl)) (hc : v.cells = cs.toArray := by (simp only [Value.cells]; rfl))
    (hn : ∀ b, a.put (some d) (.pointer (some ⟨b, 0, none⟩)) = a3 b := by (intro b; simp only [Act.put, List.setIfInBounds_toArray, List.set_cons_succ, List.set_cons_zero]; rfl)) : wpList P ops Q (o :: rest) a w :=
  wpList_newB (cs := cs) (t := t) hg hd (fun W => by
    unfold execOp
    simp only [ho, hx]
    simp [go_sem]
    show W.alloc (.cells v.cells t) = _
    rw [hc]) fun b W' h1 h2 h3 => by rw [hn]; exact hK b W' (Lib.hid (H.out.fresh h2 h1 h3.out))
theorem alM (H : Hid (Hm w0 w M ob l)) {t : TypeId} {d : Tmp} {z : Value} {cs : List Value} {a3 : Nat → Act} (hK : ∀ (b : Nat) W', Hid (Hm w0 W' M ob ((b, t, cs) :: l)) → wpList P ops Q rest (a3 b) W') (ho : o.op = .alloc t := by rfl) (hz : (P.info? t).bind (·.zero) = some z := by assumption) (hg : o.guard = none := by rfl) (hd : o.dst = some d := by rfl) (hc : z.cells = cs.toArray := by (simp only [Value.cells]; rfl))
    (hn : ∀ b, a.put (some d) (.pointer (some ⟨b, 0, none⟩)) = a3 b := by (intro b; simp only [Act.put, List.setIfInBounds_toArray, List.set_cons_succ, List.set_cons_zero]; rfl)) : wpList P ops Q (o :: rest) a w := by
  have hi : ∃ i, P.info? t = some i ∧ i.zero = some z := by
    cases hq : P.info? t with
    | none => simp [hq] at hz
    | some i => exact ⟨i, rfl, by simpa [hq] using hz⟩
  obtain ⟨i, hi1, hi2⟩ := hi
  exact wpList_newB (cs := cs) (t := t) hg hd (fun W => by
    unfold execOp
    simp only [ho]
    simp [go_sem, zeroValue, typeInfo, hi1, hi2]
    show W.alloc (.cells z.cells t) = _
    rw [hc]) fun b W' h1 h2 h3 => by rw [hn]; exact hK b W' (Lib.hid (H.out.fresh h2 h1 h3.out))
/-- A literal slice. -/
theorem bsM (t : TypeId) (cs : List Value) (n : Nat) (H : Hid (Hm w0 w M ob l)) {d : Tmp} {a3 : Nat → Act} (hK : ∀ (b : Nat) W', Hid (Hm w0 W' M ob ((b, t, cs) :: l)) → wpList P ops Q rest (a3 b) W') (hg : o.guard = none := by rfl) (hd : o.dst = some d := by rfl)
    (hr : ∀ W : World, (execOp a.eval o).run P W = .ok (.value (.slice (some ⟨W.heap.size, 0, none⟩) n n)) (W.alloc (.cells cs.toArray t)) := by intro W; kernel_rfl)
    (hn : ∀ b, a.put (some d) (.slice (some ⟨b, 0, none⟩) n n) = a3 b := by (intro b; simp only [Act.put, List.setIfInBounds_toArray, List.set_cons_succ, List.set_cons_zero]; rfl)) : wpList P ops Q (o :: rest) a w := by
  unfold wpList
  rw [if_pos (by simp [Region.wanted, hg])]
  refine .inl ?_
  unfold Oper.wp
  rw [hr, Oper.upon_value, hd, hn]
  exact hK _ _ (Lib.hid (H.out.fresh ((Below.refl _ _).alloc (Nat.le_refl _) _) (Nat.le_refl _) (Blk.new _ _ _)))
/-- append of a literal to a slice of the call's own -/
theorem apM {size bytes b m c n : Nat} {t e e2 : TypeId} {v : Value} {xs cur news : List Value} (X T : Ents) (H : Hid (Hm w0 w M ob l)) (R : Hid (RowV size v n xs cur)) (I : InfoT P e size bytes) (hsz : 0 < size) (ht : P.underlying t = some (.slice e)) {s x : Operand}
    (hK : ∀ v' cur' W', Hid (RowV size v' (n + m) (xs ++ news) cur') → Hid (Hm w0 W' M ob (X ++ (rowE v' e cur' ++ T))) → wpList P ops Q rest (a.put o.dst v') W')
    (hm : (b, e2, news) ∈ l) (hn : news.length = m * size) (h1 : news.all (·.oneCell') = true) (h0 : 0 < m) (h63 : n + m ≤ maxLen) (hb : (n + m) * bytes ≤ 140737488355328)
    (hl : l = X ++ (rowE v e cur ++ T) := by rfl) (hgd : o.guard = none := by rfl) (ho : o.op = .call { callee := .builtin .append, args := #[s, x], argTypes := #[t, t] } := by rfl) (hs : a.eval s = v := by rfl) (hx : a.eval x = .slice (some ⟨b, 0, none⟩) m c := by rfl) : wpList P ops Q (o :: rest) a w := by
  subst hl
  obtain ⟨i, z, hi, hz, rfl, rfl, hzs⟩ := I.h
  have hk := (H.out.hp.get hm).out
  obtain ⟨v', cur', w', hr, h2, h3, g, h4⟩ := run_append_H (P := P) t o.type i z ht hi hz hzs hsz H.out.hp R.out b m c news hn (fun j u hu => by rw [hk.cell]; simpa using hu) (fun u hu => List.all_eq_true.1 h1 u hu) h0 h63 hb
  refine wpList_plain hgd fun _ hK2 => ?_
  unfold Oper.wp execOp
  simp only [ho, resolve, invoke, builtin, Sem.run_bind, Sem.run_pure, Result.andThen_ok, List.map_toArray, List.map_cons, List.map_nil, hs, hx, hr]
  exact hK2 _ _ (hK v' cur' w' (Lib.hid h2) (Lib.hid (H.out.chg h3 h4)))
/-- A load of a struct out of a row of the call's own. -/
theorem ldRw (H : Hid (Hm w0 w M ob l)) {α : Type} {enc : α → List Value} {k n : Nat} (j : Nat) {e t : TypeId} {g cap : Nat} {xs : List α} {x : α} {cur cs : List Value} (hk : ∀ x, (enc x).length = k) (hp0 : 0 < k) (R : Hid (RowV k (.slice (some ⟨g, 0, none⟩) n cap) n (flat enc xs) cur)) (hx : Hid (xs[j]? = some x)) (hcs : enc x = cs) {p : Operand} {q : Nat}
    (hK : wpList P ops Q rest a2 w) (hT : RowT P t k) (hm : (g, e, cur) ∈ l := by repeat (first | exact List.Mem.head _ | refine List.Mem.tail _ ?_ | assumption)) (ho : o.op = .load t p := by rfl) (hg : Region.wanted o (yielded ops a.tmps) = true := by first | exact wanted_none rfl | exact wanted_some rfl rfl) (hp : a.eval p = .pointer (some ⟨g, q, none⟩) := by rfl) (hq : q = k * j := by omega)
    (hn : a.put o.dst (.agg cs.toArray) = a2 := by (simp only [Act.put, List.setIfInBounds_toArray, List.set_cons_succ, List.set_cons_zero]; rfl)) : wpList P ops Q (o :: rest) a w := by
  obtain ⟨g', cap', e1, e2, _⟩ := R.out.at_ hk hx.out hp0
  injection e1 with e1
  injection e1 with e1
  injection e1 with e1
  subst e1
  subst hq
  subst hcs
  exact wpList_loadB ho hg hT hp (H.out.hp.get hm) (by simpa using e2) (hk x) (by rw [hn]; exact hK)
end
end Go.Proofs.Ythepafendopfhaa
