/- Structs in blocks of their own: a load, a store, a new block as ONE law each, in a plain region and in one that draws its order. No program. -/
import Derived.Test.YtmfejdikfpckdaaGreatDoorFc7
import Derived.Deep.MidRow
namespace Go.Proofs.YtmfejdikfpckdaaGreatDoor
open Go.RowKit
set_option linter.unusedVariables false

/-- A type whose values are n cells. -/
structure RowT (P : Program) (t : TypeId) (n : Nat) : Prop where
  u : ∃ d, P.underlying t = some d ∧ d.isRow = true
  s : (P.info? t).map (·.size) = some n
theorem blk_range {w : World} {b k n : Nat} {T : TypeId} {cs : Array Value} {ds : List Value} (h : Blk w b T cs) (hx : (cs.toList.drop k).take n = ds) : w.rangeAt b k ds := by
  intro j v hv
  rw [← hx, List.getElem?_take] at hv
  split at hv
  · rw [h.cell]
    rw [List.getElem?_drop] at hv
    simpa using hv
  · cases hv
theorem run_loadB {P : Program} {w : World} {t T : TypeId} {b k n : Nat} {cs : Array Value} {ds : List Value} (h : Hid (Blk w b T cs)) (hT : RowT P t n) (hx : (cs.toList.drop k).take n = ds) (hl : ds.length = n) :
    (Instr.loadAt t (.pointer (some ⟨b, k, none⟩))).run P w = .ok (.agg ds.toArray) w := by
  obtain ⟨d, h1, h2⟩ := hT.u
  exact run_loadAt_mid w b k t ds d (blk_range h.out hx) h1 h2 (by rw [hT.s, hl])

section
variable {P : Program} {ops : Array Oper} {rest : List Oper} {o : Oper} {a : Act} {w : World} {Q : Exit → Act → World → Prop}
theorem wpList_loadB {t T : TypeId} {p : Operand} {b k n : Nat} {cs : Array Value} {ds : List Value} (ho : o.op = .load t p) (hg : Region.wanted o (yielded ops a.tmps) = true) (hT : RowT P t n) (hp : a.eval p = .pointer (some ⟨b, k, none⟩))
    (h : Hid (Blk w b T cs)) (hx : (cs.toList.drop k).take n = ds) (hl : ds.length = n) (hK : wpList P ops Q rest (a.put o.dst (.agg ds.toArray)) w) : wpList P ops Q (o :: rest) a w := by
  obtain ⟨d, h1, h2⟩ := hT.u
  refine wpList_step fun K hK' => ?_
  rw [if_pos hg]
  exact wp_load_mid t p ho b k hp ds d (blk_range h.out hx) h1 h2 (by rw [hT.s, hl]) (hK' _ _ hK)
/-- One cell. -/
theorem wpList_loadC {t T : TypeId} {p : Operand} {b k : Nat} {cs : Array Value} {v : Value} (ho : o.op = .load t p) (hg : Region.wanted o (yielded ops a.tmps) = true) (hT : ∃ d, P.underlying t = some d ∧ d.isRow = false) (hp : a.eval p = .pointer (some ⟨b, k, none⟩))
    (h : Hid (Blk w b T cs)) (hx : cs.toList[k]? = some v) (hK : wpList P ops Q rest (a.put o.dst v) w) : wpList P ops Q (o :: rest) a w := by
  obtain ⟨d, h1, h2⟩ := hT
  have hc : w.cell? ⟨b, k, none⟩ = some v := by rw [h.out.cell]; simpa using hx
  refine wpList_step fun K hK' => ?_
  rw [if_pos hg]
  unfold Oper.wp execOp
  have hagg : (isAgg t).run P w = .ok false w := by
    unfold isAgg
    rw [Sem.run_bind, run_underlying h1 w]
    cases d <;> simp_all
  simp only [ho, hp, Instr.loadAt, Instr.sureAddr, loadVar, Sem.run_bind, Sem.run_pure, Result.andThen_ok, hagg]
  simp [hc, go_sem]
  exact hK' _ _ hK

theorem blk_splice {b : Nat} {T : TypeId} : ∀ (vs : List Value) (k : Nat) (cs : Array Value) (W : World), Blk W b T cs → k + vs.length ≤ cs.size → Blk (W.setCells b k vs) b T (cs.toList.take k ++ vs ++ cs.toList.drop (k + vs.length)).toArray
  | [], k, cs, W, h, _ => by
    have e : (cs.toList.take k ++ [] ++ cs.toList.drop (k + ([] : List Value).length)).toArray = cs := by simp
    rw [e]; exact h
  | v :: r, k, cs, W, h, hl => by
    simp only [List.length_cons] at hl
    have := blk_splice r (k + 1) (cs.setIfInBounds k v) _ (h.set_ k v) (by simp; omega)
    have e : ((cs.setIfInBounds k v).toList.take (k + 1) ++ r ++ (cs.setIfInBounds k v).toList.drop (k + 1 + r.length)) = cs.toList.take k ++ v :: r ++ cs.toList.drop (k + (v :: r).length) := by
      have hk : k < cs.toList.length := by simp; omega
      rw [Array.toList_setIfInBounds, List.take_set, List.drop_set, if_pos (by omega)]
      rw [List.take_succ_eq_append_getElem hk, List.set_append_right _ _ (by simp; omega)]
      simp [show min k cs.size = k by omega, Nat.add_comm 1, Nat.add_assoc]
    rw [e] at this
    exact this
theorem there_of {b k n : Nat} {T : TypeId} {cs : Array Value} {W : World} (h : Blk W b T cs) (hk : k + n ≤ cs.size) : W.there b k n := fun j hj => ⟨by rw [h.cell, Array.getElem?_eq_getElem (by omega)]; rfl, h.frozen _⟩
/-- The store of a struct into a part of a block. -/
theorem wpList_storeB {t T : TypeId} {p x : Operand} {b k n : Nat} {cs : Array Value} {vs ds : List Value} (ho : o.op = .store t p x) (hg : o.guard = none) (hd : o.dst = none) (hT : RowT P t n) (hp : a.eval p = .pointer (some ⟨b, k, none⟩)) (hx : a.eval x = .agg vs.toArray)
    (h : Hid (Blk w b T cs)) (hl : vs.length = n) (hk : k + n ≤ cs.size) (h1 : vs.all (·.oneCell') = true) (hc : cs.toList.take k ++ vs ++ cs.toList.drop (k + n) = ds)
    (hK : ∀ W', BelowZ b w W' → Hid (Blk W' b T ds.toArray) → wpList P ops Q rest a W') : wpList P ops Q (o :: rest) a w := by
  refine wpList_store_mid hg t p x ho b k vs.toArray hp hx (there_of h.out (by simpa [hl] using hk)) (by rw [hT.s]; simp [hl]) (all_oneCell_toArray (by simpa using h1)) ?_
  rw [hd]
  have h2 := blk_splice vs k cs w h.out (by omega)
  rw [hl, hc] at h2
  exact hK _ ⟨(setCells_far vs k w).2, fun g _ hne => (setCells_far vs k w).1 g hne⟩ (Lib.hid (by simpa using h2))
/-- .. of one cell. -/
theorem wpList_storeC {t T : TypeId} {p x : Operand} {b k : Nat} {cs : Array Value} {v : Value} {ds : List Value} (ho : o.op = .store t p x) (hg : o.guard = none) (hd : o.dst = none) (hT : (P.info? t).map (·.size) = some 1) (hp : a.eval p = .pointer (some ⟨b, k, none⟩)) (hx : a.eval x = v)
    (h : Hid (Blk w b T cs)) (hk : k < cs.size) (h1 : v.oneCell' = true) (hv : v.cells = #[v]) (hc : cs.toList.set k v = ds)
    (hK : ∀ W', BelowZ b w W' → Hid (Blk W' b T ds.toArray) → wpList P ops Q rest a W') : wpList P ops Q (o :: rest) a w := by
  have hi : ∃ i, P.info? t = some i ∧ i.size = 1 := by
    cases hq : P.info? t with
    | none => simp [hq] at hT
    | some i => exact ⟨i, rfl, by simpa [hq] using hT⟩
  obtain ⟨i, hi1, hi2⟩ := hi
  have hcell := h.out.cell k
  rw [Array.getElem?_eq_getElem hk] at hcell
  have hf := h.out.frozen k
  have hcc := run_storeCells_cells (P := P) b k [v] 0 w (fun j hj => by have e : j = 0 := by simpa using hj
                                                                        subst e; simp [hcell]) (fun j hj => h.out.frozen _) (by simpa using h1)
  simp only [Nat.add_zero] at hcc
  have hb := h.out.set_ k v
  have e : cs.setIfInBounds k v = ds.toArray := by rw [← hc]; apply Array.ext'; simp
  rw [e] at hb
  have hst : (store ⟨b, k, none⟩ v).run P w = .ok () (w.setCell ⟨b, k, none⟩ v) := by
    rw [run_store P w _ v _ h1, hcell]
    simp [hf]
  have hsv : (storeVar t ⟨b, k, none⟩ v).run P w = .ok () (w.setCell ⟨b, k, none⟩ v) := by
    unfold storeVar
    simp [sizeOf, typeInfo, hi1, hi2, hv, storeCells, Addr.add_mid, hst]
  refine wpList_plain hg fun K hK' => ?_
  unfold Oper.wp execOp
  simp only [ho, hp, hx, Instr.storeAt, Instr.sureAddr, Sem.run_bind, Sem.run_pure, Result.andThen_ok, hsv]
  rw [Oper.upon_skip, hd]
  exact hK' _ _ (hK _ ⟨(setCells_far [v] k w).2, fun g _ hne => (setCells_far [v] k w).1 g hne⟩ hb)
/-- A new block. -/
theorem wpList_newB {t : TypeId} {d : Tmp} {cs : List Value} (hg : o.guard = none) (hd : o.dst = some d)
    (hr : ∀ W : World, (execOp a.eval o).run P W = .ok (.value (.pointer (some ⟨W.heap.size, 0, none⟩))) (W.alloc (.cells cs.toArray t)))
    (hK : ∀ (b : Nat) W', w.heap.size ≤ b → Below w.heap.size w W' → Hid (Blk W' b t cs.toArray) → wpList P ops Q rest (a.put (some d) (.pointer (some ⟨b, 0, none⟩))) W') : wpList P ops Q (o :: rest) a w := by
  unfold wpList
  rw [if_pos (by simp [Region.wanted, hg])]
  refine .inl ?_
  unfold Oper.wp
  rw [hr, Oper.upon_value, hd]
  exact hK _ _ (Nat.le_refl _) ((Below.refl _ _).alloc (Nat.le_refl _) _) (Blk.new _ _ _)

/-! In a region that draws its order -/
theorem wpKeep_loadB {R : Act → Prop} {t T : TypeId} {p : Operand} {b k n : Nat} {cs : Array Value} {ds : List Value} (ho : o.op = .load t p) (hg : Region.wanted o (yielded ops a.tmps) = true) (hT : RowT P t n) (hp : a.eval p = .pointer (some ⟨b, k, none⟩))
    (h : Hid (Blk w b T cs)) (hx : (cs.toList.drop k).take n = ds) (hl : ds.length = n) (hK : wpKeep P ops w R rest (a.put o.dst (.agg ds.toArray))) : wpKeep P ops w R (o :: rest) a := by
  unfold wpKeep
  rw [if_pos hg]
  refine ⟨.agg ds.toArray, fun s => ?_, hK⟩
  have hb : Hid (Blk s.to b T cs) := h.out.below s.h h.out.lt
  have hr := run_loadB (P := P) (t := t) (k := k) hb hT hx hl
  unfold keepsAt execOp
  simp only [ho, hp, hr, Sem.run_bind, Sem.run_pure, Result.andThen_ok]
  exact ⟨rfl, rfl⟩
end

/-! The results -/
section
variable {P : Program} {fn : Func} {tmps : Array Value} {w : World}
theorem loadVarB {t T : TypeId} {b n : Nat} {cs : Array Value} (h : Hid (Blk w b T cs)) (hT : RowT P t n) (hl : cs.size = n) : (loadVar t ⟨b, 0, none⟩).run P w = .ok (.agg cs) w := by
  obtain ⟨d, h1, h2⟩ := hT.u
  have hr : w.rangeAt b 0 cs.toList := fun j v hv => by rw [Nat.zero_add, h.out.cell]; simpa using hv
  have := run_loadVar_mid (P := P) w b 0 t cs.toList d hr h1 h2 (by rw [hT.s]; simp [hl])
  simpa using this
theorem results_B {r : Nat} {t T : TypeId} {b n : Nat} {cs : Array Value} (hr : fn.results = #[.cell r t]) (hp : tmps.getD r undef = .pointer (some ⟨b, 0, none⟩)) (h : Hid (Blk w b T cs)) (hT : RowT P t n) (hl : cs.size = n) :
    (results fn tmps).run P w = .ok (.agg cs) w := by
  unfold results
  rw [hr]
  have := loadVarB (P := P) h hT hl
  have hp' : tmps[r]?.getD undef = .pointer (some ⟨b, 0, none⟩) := by simpa using hp
  simp [hp', asAddr, this]
theorem results_Bv {r k : Nat} {t T : TypeId} {b n : Nat} {cs : Array Value} {v : Value} (hr : fn.results = #[.cell r t, .tmp k]) (hp : tmps.getD r undef = .pointer (some ⟨b, 0, none⟩)) (hv : tmps.getD k undef = v) (h : Hid (Blk w b T cs)) (hT : RowT P t n) (hl : cs.size = n) :
    (results fn tmps).run P w = .ok (.tuple #[.agg cs, v]) w := by
  unfold results
  rw [hr]
  have := loadVarB (P := P) h hT hl
  have hp' : tmps[r]?.getD undef = .pointer (some ⟨b, 0, none⟩) := by simpa using hp
  have hv' : tmps[k]?.getD undef = v := by simpa using hv
  simp [hp', hv', asAddr, this]
end
end Go.Proofs.YtmfejdikfpckdaaGreatDoor
