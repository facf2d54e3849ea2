/- Structs in blocks of their own: a load, a store, a new block as ONE law each, in a plain region and in one that draws its order. No program. · The blocks of a call as one list: every operation on structs is one law over it, in a plain region and in one that draws its order. No program but for the library's table. · wp_region_newput over the list of the call's blocks. No program. · wp_region_uni over the list of the call's blocks. No program. · As Uni and HeapU, with a further kind of operation: it reads or calls, leaves all as it is, and yields a value that is known ahead, in every world in which what lay there is as it was: it may change places with the making of a block. No program. · A region that draws its order and calls what changes one known block (a stream of numbers): the state is the list of the call's own blocks. Kinds: p (reads, calls, computes: over blocks that do not change), a (makes a block), s (changes a known block, and may yield a value). Printed by gen/unv.py. · The laws over the list of blocks, their small premises left to be found where they are used. -/
import Derived.Test.YthepafendopfhaaTl5
import Derived.Deep.MidRow
namespace Go.Proofs.Ythepafendopfhaa
open Go.RowKit
set_option linter.unusedVariables false

/-- A type whose values are n cells. -/
structure RowT (P : Program) (t : TypeId) (n : Nat) : Prop where
  u : ∃ d, P.underlying t = some d ∧ d.isRow = true
  s : (P.info? t).map (·.size) = some n
theorem blk_range {w : World} {b k n : Nat} {T : TypeId} {cs : Array Value} {ds : List Value} (h : Blk w b T cs) (hx : (cs.toList.drop k).take n = ds) : w.rangeAt b k ds := by
  intro j v hv
  rw [← hx, List.getElem?_take] at hv
  split at hv
  · rw [h.cell]
    rw [List.getElem?_drop] at hv
    simpa using hv
  · cases hv
theorem run_loadB {P : Program} {w : World} {t T : TypeId} {b k n : Nat} {cs : Array Value} {ds : List Value} (h : Hid (Blk w b T cs)) (hT : RowT P t n) (hx : (cs.toList.drop k).take n = ds) (hl : ds.length = n) :
    (Instr.loadAt t (.pointer (some ⟨b, k, none⟩))).run P w = .ok (.agg ds.toArray) w := by
  obtain ⟨d, h1, h2⟩ := hT.u
  exact run_loadAt_mid w b k t ds d (blk_range h.out hx) h1 h2 (by rw [hT.s, hl])

section
variable {P : Program} {ops : Array Oper} {rest : List Oper} {o : Oper} {a : Act} {w : World} {Q : Exit → Act → World → Prop}
theorem wpList_loadB {t T : TypeId} {p : Operand} {b k n : Nat} {cs : Array Value} {ds : List Value} (ho : o.op = .load t p) (hg : Region.wanted o (yielded ops a.tmps) = true) (hT : RowT P t n) (hp : a.eval p = .pointer (some ⟨b, k, none⟩))
    (h : Hid (Blk w b T cs)) (hx : (cs.toList.drop k).take n = ds) (hl : ds.length = n) (hK : wpList P ops Q rest (a.put o.dst (.agg ds.toArray)) w) : wpList P ops Q (o :: rest) a w := by
  obtain ⟨d, h1, h2⟩ := hT.u
  refine wpList_step fun K hK' => ?_
  rw [if_pos hg]
  exact wp_load_mid t p ho b k hp ds d (blk_range h.out hx) h1 h2 (by rw [hT.s, hl]) (hK' _ _ hK)
/-- One cell. -/
theorem wpList_loadC {t T : TypeId} {p : Operand} {b k : Nat} {cs : Array Value} {v : Value} (ho : o.op = .load t p) (hg : Region.wanted o (yielded ops a.tmps) = true) (hT : ∃ d, P.underlying t = some d ∧ d.isRow = false) (hp : a.eval p = .pointer (some ⟨b, k, none⟩))
    (h : Hid (Blk w b T cs)) (hx : cs.toList[k]? = some v) (hK : wpList P ops Q rest (a.put o.dst v) w) : wpList P ops Q (o :: rest) a w := by
  obtain ⟨d, h1, h2⟩ := hT
  have hc : w.cell? ⟨b, k, none⟩ = some v := by rw [h.out.cell]; simpa using hx
  refine wpList_step fun K hK' => ?_
  rw [if_pos hg]
  unfold Oper.wp execOp
  have hagg : (isAgg t).run P w = .ok false w := by
    unfold isAgg
    rw [Sem.run_bind, run_underlying h1 w]
    cases d <;> simp_all
  simp only [ho, hp, Instr.loadAt, Instr.sureAddr, loadVar, Sem.run_bind, Sem.run_pure, Result.andThen_ok, hagg]
  simp [hc, go_sem]
  exact hK' _ _ hK

theorem blk_splice {b : Nat} {T : TypeId} : ∀ (vs : List Value) (k : Nat) (cs : Array Value) (W : World), Blk W b T cs → k + vs.length ≤ cs.size → Blk (W.setCells b k vs) b T (cs.toList.take k ++ vs ++ cs.toList.drop (k + vs.length)).toArray
  | [], k, cs, W, h, _ => by
    have e : (cs.toList.take k ++ [] ++ cs.toList.drop (k + ([] : List Value).length)).toArray = cs := by simp
    rw [e]; exact h
  | v :: r, k, cs, W, h, hl => by
    simp only [List.length_cons] at hl
    have := blk_splice r (k + 1) (cs.setIfInBounds k v) _ (h.set_ k v) (by simp; omega)
    have e : ((cs.setIfInBounds k v).toList.take (k + 1) ++ r ++ (cs.setIfInBounds k v).toList.drop (k + 1 + r.length)) = cs.toList.take k ++ v :: r ++ cs.toList.drop (k + (v :: r).length) := by
      have hk : k < cs.toList.length := by simp; omega
      rw [Array.toList_setIfInBounds, List.take_set, List.drop_set, if_pos (by omega)]
      rw [List.take_succ_eq_append_getElem hk, List.set_append_right _ _ (by simp; omega)]
      simp [show min k cs.size = k by omega, Nat.add_comm 1, Nat.add_assoc]
    rw [e] at this
    exact this
theorem there_of {b k n : Nat} {T : TypeId} {cs : Array Value} {W : World} (h : Blk W b T cs) (hk : k + n ≤ cs.size) : W.there b k n := fun j hj => ⟨by rw [h.cell, Array.getElem?_eq_getElem (by omega)]; rfl, h.frozen _⟩
/-- The store of a struct into a part of a block. -/
theorem wpList_storeB {t T : TypeId} {p x : Operand} {b k n : Nat} {cs : Array Value} {vs ds : List Value} (ho : o.op = .store t p x) (hg : o.guard = none) (hd : o.dst = none) (hT : RowT P t n) (hp : a.eval p = .pointer (some ⟨b, k, none⟩)) (hx : a.eval x = .agg vs.toArray)
    (h : Hid (Blk w b T cs)) (hl : vs.length = n) (hk : k + n ≤ cs.size) (h1 : vs.all (·.oneCell') = true) (hc : cs.toList.take k ++ vs ++ cs.toList.drop (k + n) = ds)
    (hK : ∀ W', BelowZ b w W' → Hid (Blk W' b T ds.toArray) → wpList P ops Q rest a W') : wpList P ops Q (o :: rest) a w := by
  refine wpList_store_mid hg t p x ho b k vs.toArray hp hx (there_of h.out (by simpa [hl] using hk)) (by rw [hT.s]; simp [hl]) (all_oneCell_toArray (by simpa using h1)) ?_
  rw [hd]
  have h2 := blk_splice vs k cs w h.out (by omega)
  rw [hl, hc] at h2
  exact hK _ ⟨(setCells_far vs k w).2, fun g _ hne => (setCells_far vs k w).1 g hne⟩ (Lib.hid (by simpa using h2))
/-- .. of one cell. -/
theorem wpList_storeC {t T : TypeId} {p x : Operand} {b k : Nat} {cs : Array Value} {v : Value} {ds : List Value} (ho : o.op = .store t p x) (hg : o.guard = none) (hd : o.dst = none) (hT : (P.info? t).map (·.size) = some 1) (hp : a.eval p = .pointer (some ⟨b, k, none⟩)) (hx : a.eval x = v)
    (h : Hid (Blk w b T cs)) (hk : k < cs.size) (h1 : v.oneCell' = true) (hv : v.cells = #[v]) (hc : cs.toList.set k v = ds)
    (hK : ∀ W', BelowZ b w W' → Hid (Blk W' b T ds.toArray) → wpList P ops Q rest a W') : wpList P ops Q (o :: rest) a w := by
  have hi : ∃ i, P.info? t = some i ∧ i.size = 1 := by
    cases hq : P.info? t with
    | none => simp [hq] at hT
    | some i => exact ⟨i, rfl, by simpa [hq] using hT⟩
  obtain ⟨i, hi1, hi2⟩ := hi
  have hcell := h.out.cell k
  rw [Array.getElem?_eq_getElem hk] at hcell
  have hf := h.out.frozen k
  have hcc := run_storeCells_cells (P := P) b k [v] 0 w (fun j hj => by have e : j = 0 := by simpa using hj
                                                                        subst e; simp [hcell]) (fun j hj => h.out.frozen _) (by simpa using h1)
  simp only [Nat.add_zero] at hcc
  have hb := h.out.set_ k v
  have e : cs.setIfInBounds k v = ds.toArray := by rw [← hc]; apply Array.ext'; simp
  rw [e] at hb
  have hst : (store ⟨b, k, none⟩ v).run P w = .ok () (w.setCell ⟨b, k, none⟩ v) := by
    rw [run_store P w _ v _ h1, hcell]
    simp [hf]
  have hsv : (storeVar t ⟨b, k, none⟩ v).run P w = .ok () (w.setCell ⟨b, k, none⟩ v) := by
    unfold storeVar
    simp [sizeOf, typeInfo, hi1, hi2, hv, storeCells, Addr.add_mid, hst]
  refine wpList_plain hg fun K hK' => ?_
  unfold Oper.wp execOp
  simp only [ho, hp, hx, Instr.storeAt, Instr.sureAddr, Sem.run_bind, Sem.run_pure, Result.andThen_ok, hsv]
  rw [Oper.upon_skip, hd]
  exact hK' _ _ (hK _ ⟨(setCells_far [v] k w).2, fun g _ hne => (setCells_far [v] k w).1 g hne⟩ hb)
/-- A new block. -/
theorem wpList_newB {t : TypeId} {d : Tmp} {cs : List Value} (hg : o.guard = none) (hd : o.dst = some d)
    (hr : ∀ W : World, (execOp a.eval o).run P W = .ok (.value (.pointer (some ⟨W.heap.size, 0, none⟩))) (W.alloc (.cells cs.toArray t)))
    (hK : ∀ (b : Nat) W', w.heap.size ≤ b → Below w.heap.size w W' → Hid (Blk W' b t cs.toArray) → wpList P ops Q rest (a.put (some d) (.pointer (some ⟨b, 0, none⟩))) W') : wpList P ops Q (o :: rest) a w := by
  unfold wpList
  rw [if_pos (by simp [Region.wanted, hg])]
  refine .inl ?_
  unfold Oper.wp
  rw [hr, Oper.upon_value, hd]
  exact hK _ _ (Nat.le_refl _) ((Below.refl _ _).alloc (Nat.le_refl _) _) (Blk.new _ _ _)

/-! In a region that draws its order -/
theorem wpKeep_loadB {R : Act → Prop} {t T : TypeId} {p : Operand} {b k n : Nat} {cs : Array Value} {ds : List Value} (ho : o.op = .load t p) (hg : Region.wanted o (yielded ops a.tmps) = true) (hT : RowT P t n) (hp : a.eval p = .pointer (some ⟨b, k, none⟩))
    (h : Hid (Blk w b T cs)) (hx : (cs.toList.drop k).take n = ds) (hl : ds.length = n) (hK : wpKeep P ops w R rest (a.put o.dst (.agg ds.toArray))) : wpKeep P ops w R (o :: rest) a := by
  unfold wpKeep
  rw [if_pos hg]
  refine ⟨.agg ds.toArray, fun s => ?_, hK⟩
  have hb : Hid (Blk s.to b T cs) := h.out.below s.h h.out.lt
  have hr := run_loadB (P := P) (t := t) (k := k) hb hT hx hl
  unfold keepsAt execOp
  simp only [ho, hp, hr, Sem.run_bind, Sem.run_pure, Result.andThen_ok]
  exact ⟨rfl, rfl⟩
theorem wpKeepZ_loadB {z : Nat} {R : Act → Prop} {t T : TypeId} {p : Operand} {b k n : Nat} {cs : Array Value} {ds : List Value} (ho : o.op = .load t p) (hg : Region.wanted o (yielded ops a.tmps) = true) (hT : RowT P t n) (hp : a.eval p = .pointer (some ⟨b, k, none⟩))
    (h : Hid (Blk w b T cs)) (hbz : b ≠ z) (hx : (cs.toList.drop k).take n = ds) (hl : ds.length = n) (hK : wpKeepZ P ops w z R rest (a.put o.dst (.agg ds.toArray))) : wpKeepZ P ops w z R (o :: rest) a := by
  unfold wpKeepZ
  rw [if_pos hg]
  refine ⟨.agg ds.toArray, fun s => ?_, hK⟩
  have hb : Hid (Blk s.to b T cs) := s.h.blk h.out hbz
  have hr := run_loadB (P := P) (t := t) (k := k) hb hT hx hl
  unfold keepsAt execOp
  simp only [ho, hp, hr, Sem.run_bind, Sem.run_pure, Result.andThen_ok]
  exact ⟨rfl, rfl⟩
end

/-! The results -/
section
variable {P : Program} {fn : Func} {tmps : Array Value} {w : World}
theorem loadVarB {t T : TypeId} {b n : Nat} {cs : Array Value} (h : Hid (Blk w b T cs)) (hT : RowT P t n) (hl : cs.size = n) : (loadVar t ⟨b, 0, none⟩).run P w = .ok (.agg cs) w := by
  obtain ⟨d, h1, h2⟩ := hT.u
  have hr : w.rangeAt b 0 cs.toList := fun j v hv => by rw [Nat.zero_add, h.out.cell]; simpa using hv
  have := run_loadVar_mid (P := P) w b 0 t cs.toList d hr h1 h2 (by rw [hT.s]; simp [hl])
  simpa using this
theorem results_B {r : Nat} {t T : TypeId} {b n : Nat} {cs : Array Value} (hr : fn.results = #[.cell r t]) (hp : tmps.getD r undef = .pointer (some ⟨b, 0, none⟩)) (h : Hid (Blk w b T cs)) (hT : RowT P t n) (hl : cs.size = n) :
    (results fn tmps).run P w = .ok (.agg cs) w := by
  unfold results
  rw [hr]
  have := loadVarB (P := P) h hT hl
  have hp' : tmps[r]?.getD undef = .pointer (some ⟨b, 0, none⟩) := by simpa using hp
  simp [hp', asAddr, this]
theorem results_Bv {r k : Nat} {t T : TypeId} {b n : Nat} {cs : Array Value} {v : Value} (hr : fn.results = #[.cell r t, .tmp k]) (hp : tmps.getD r undef = .pointer (some ⟨b, 0, none⟩)) (hv : tmps.getD k undef = v) (h : Hid (Blk w b T cs)) (hT : RowT P t n) (hl : cs.size = n) :
    (results fn tmps).run P w = .ok (.tuple #[.agg cs, v]) w := by
  unfold results
  rw [hr]
  have := loadVarB (P := P) h hT hl
  have hp' : tmps[r]?.getD undef = .pointer (some ⟨b, 0, none⟩) := by simpa using hp
  have hv' : tmps[k]?.getD undef = v := by simpa using hv
  simp [hp', hv', asAddr, this]
theorem results_BB {r r2 : Nat} {t T t2 T2 : TypeId} {b n b2 n2 : Nat} {cs cs2 : Array Value} (hr : fn.results = #[.cell r t, .cell r2 t2]) (hp : tmps.getD r undef = .pointer (some ⟨b, 0, none⟩)) (hp2 : tmps.getD r2 undef = .pointer (some ⟨b2, 0, none⟩))
    (h : Hid (Blk w b T cs)) (h2 : Hid (Blk w b2 T2 cs2)) (hT : RowT P t n) (hT2 : RowT P t2 n2) (hl : cs.size = n) (hl2 : cs2.size = n2) :
    (results fn tmps).run P w = .ok (.tuple #[.agg cs, .agg cs2]) w := by
  unfold results
  rw [hr]
  have e1 := loadVarB (P := P) h hT hl
  have e2 := loadVarB (P := P) h2 hT2 hl2
  have hp' : tmps[r]?.getD undef = .pointer (some ⟨b, 0, none⟩) := by simpa using hp
  have hp2' : tmps[r2]?.getD undef = .pointer (some ⟨b2, 0, none⟩) := by simpa using hp2
  simp [hp', hp2', asAddr, e1, e2]
end
end Go.Proofs.Ythepafendopfhaa

namespace Go.Proofs.Ythepafendopfhaa
open Go.RowKit
set_option linter.unusedVariables false

/-- No table of the library is needed. -/
def Tb (_ : World) : Prop := True
theorem Tb.below {w w' : World} (h : Tb w) (hb : Below w.heap.size w w') : Tb w' := trivial
abbrev Ents := List (Nat × TypeId × List Value)
/-- The call's own blocks; all that was there is as it was; the library's table is there. -/
structure Hp (w0 w : World) (l : Ents) : Prop where
  blk : ∀ x ∈ l, w0.heap.size ≤ x.1 ∧ Blk w x.1 x.2.1 x.2.2.toArray
  nd : (l.map (·.1)).Nodup
  bel : Below w0.heap.size w0 w
  t0 : Tb w0
theorem Hp.tb {w0 w : World} {l : Ents} (h : Hp w0 w l) : Tb w := h.t0.below h.bel
theorem Hp.tbx {w0 w : World} {l : Ents} (h : Hp w0 w l) (s : Ext w) : Tb s.to := h.tb.below s.h
theorem Hp.tbz {w0 w : World} {l : Ents} {z : Nat} (h : Hp w0 w l) (hz : w0.heap.size ≤ z) (s : ExtZ w z) : Tb s.to := h.t0.below (s.h.below h.bel hz h.bel.size)
theorem Hp.start {w : World} (h : Tb w) : Hp w w [] := ⟨(fun _ h => by cases h), List.Pairwise.nil, Below.refl _ _, h⟩
theorem Hp.go {w0 w w' : World} {l : Ents} (h : Hp w0 w l) (hb : Below w.heap.size w w') : Hp w0 w' l :=
  ⟨fun x hx => ⟨(h.blk x hx).1, (h.blk x hx).2.below hb (h.blk x hx).2.lt⟩, h.nd, h.bel.trans (hb.mono h.bel.size), h.t0⟩
theorem Hp.lt {w0 w : World} {l : Ents} (h : Hp w0 w l) {x : Nat × TypeId × List Value} (hx : x ∈ l) : x.1 < w.heap.size := (h.blk x hx).2.lt
theorem Hp.fresh {w0 w w' : World} {l : Ents} (h : Hp w0 w l) (hb : Below w.heap.size w w') {b : Nat} {t : TypeId} {cs : List Value} (hg : w.heap.size ≤ b) (hk : Blk w' b t cs.toArray) : Hp w0 w' ((b, t, cs) :: l) := by
  refine ⟨fun x hx => ?_, ?_, (h.go hb).bel, h.t0⟩
  · rcases List.mem_cons.1 hx with rfl | hx
    · exact ⟨Nat.le_trans h.bel.size hg, hk⟩
    · exact (h.go hb).blk x hx
  · rw [List.map_cons, List.nodup_cons]
    refine ⟨fun hm => ?_, h.nd⟩
    obtain ⟨x, hx, he⟩ := List.mem_map.1 hm
    have h1 := h.lt hx
    have h2 : x.1 = b := he
    omega
/-- One block's cells are others. -/
inductive Upd : Ents → Nat → TypeId → List Value → List Value → Ents → Prop
  | head {b : Nat} {T : TypeId} {cs ds : List Value} {l : Ents} : Upd ((b, T, cs) :: l) b T cs ds ((b, T, ds) :: l)
  | tail {b : Nat} {T : TypeId} {cs ds : List Value} {l l' : Ents} {x : Nat × TypeId × List Value} (h : Upd l b T cs ds l') : Upd (x :: l) b T cs ds (x :: l')
theorem Upd.mem {l l' : Ents} {b : Nat} {T : TypeId} {cs ds : List Value} (h : Upd l b T cs ds l') : (b, T, cs) ∈ l := by
  induction h with
  | head => exact .head _
  | tail _ ih => exact .tail _ ih
theorem Upd.fst {l l' : Ents} {b : Nat} {T : TypeId} {cs ds : List Value} (h : Upd l b T cs ds l') : l'.map (·.1) = l.map (·.1) := by
  induction h with
  | head => rfl
  | tail _ ih => rw [List.map_cons, List.map_cons, ih]
theorem Upd.all {l l' : Ents} {b : Nat} {T : TypeId} {cs ds : List Value} (h : Upd l b T cs ds l') {p q : Nat × TypeId × List Value → Prop} (hn : (l.map (·.1)).Nodup) (ho : ∀ x ∈ l, x.1 ≠ b → p x → q x) (hq : q (b, T, ds)) (hp : ∀ x ∈ l, p x) : ∀ x ∈ l', q x := by
  induction h with
  | head =>
    rw [List.map_cons, List.nodup_cons] at hn
    intro x hx
    rcases List.mem_cons.1 hx with rfl | hx
    · exact hq
    · exact ho x (.tail _ hx) (fun e => hn.1 (by rw [← e]; exact List.mem_map.2 ⟨x, hx, rfl⟩)) (hp x (.tail _ hx))
  | tail h ih =>
    rename_i y
    rw [List.map_cons, List.nodup_cons] at hn
    intro x hx
    rcases List.mem_cons.1 hx with rfl | hx
    · refine ho _ (.head _) (fun e => hn.1 ?_) (hp _ (.head _))
      rw [e]
      exact List.mem_map.2 ⟨_, h.mem, rfl⟩
    · exact ih hn.2 (fun x hx => ho x (.tail _ hx)) hq (fun x hx => hp x (.tail _ hx)) x hx
theorem Hp.stored {w0 w w' : World} {l l' : Ents} {b : Nat} {T : TypeId} {cs ds : List Value} (h : Hp w0 w l) (hu : Upd l b T cs ds l') (hz : BelowZ b w w') (hk : Blk w' b T ds.toArray) : Hp w0 w' l' := by
  have hb := (h.blk _ hu.mem).1
  refine ⟨?_, by rw [hu.fst]; exact h.nd, hz.below h.bel hb h.bel.size, h.t0⟩
  exact hu.all (p := fun x => w0.heap.size ≤ x.1 ∧ Blk w x.1 x.2.1 x.2.2.toArray) (q := fun x => w0.heap.size ≤ x.1 ∧ Blk w' x.1 x.2.1 x.2.2.toArray) h.nd (fun x hx hne hp => ⟨hp.1, hz.blk hp.2 hne⟩) ⟨hb, hk⟩ h.blk
theorem Hp.get {w0 w : World} {l : Ents} (h : Hp w0 w l) {b : Nat} {T : TypeId} {cs : List Value} (hm : (b, T, cs) ∈ l) : Hid (Blk w b T cs.toArray) := (h.blk _ hm).2

section
variable {P : Program} {ops : Array Oper} {rest : List Oper} {o : Oper} {a : Act} {w0 w : World} {l l' : Ents} {Q : Exit → Act → World → Prop}
theorem wpList_loadH (H : Hid (Hp w0 w l)) {t T : TypeId} {p : Operand} {b k n : Nat} {cs ds : List Value} (ho : o.op = .load t p) (hg : Region.wanted o (yielded ops a.tmps) = true) (hT : RowT P t n) (hp : a.eval p = .pointer (some ⟨b, k, none⟩))
    (hm : (b, T, cs) ∈ l) (hx : (cs.drop k).take n = ds) (hl : ds.length = n) (hK : wpList P ops Q rest (a.put o.dst (.agg ds.toArray)) w) : wpList P ops Q (o :: rest) a w :=
  wpList_loadB ho hg hT hp (H.out.get hm) (by simpa using hx) hl hK
theorem wpList_loadH1 (H : Hid (Hp w0 w l)) {t T : TypeId} {p : Operand} {b k : Nat} {cs : List Value} {v : Value} (ho : o.op = .load t p) (hg : Region.wanted o (yielded ops a.tmps) = true) (hT : ∃ d, P.underlying t = some d ∧ d.isRow = false) (hp : a.eval p = .pointer (some ⟨b, k, none⟩))
    (hm : (b, T, cs) ∈ l) (hx : cs[k]? = some v) (hK : wpList P ops Q rest (a.put o.dst v) w) : wpList P ops Q (o :: rest) a w :=
  wpList_loadC ho hg hT hp (H.out.get hm) (by simpa using hx) hK
theorem wpList_storeH (H : Hid (Hp w0 w l)) {t T : TypeId} {p x : Operand} {b k n : Nat} {cs vs ds : List Value} (ho : o.op = .store t p x) (hg : o.guard = none) (hd : o.dst = none) (hT : RowT P t n) (hp : a.eval p = .pointer (some ⟨b, k, none⟩)) (hx : a.eval x = .agg vs.toArray)
    (hu : Upd l b T cs ds l') (hl : vs.length = n) (hc : cs.take k ++ vs ++ cs.drop (k + n) = ds) (hk : k + n ≤ cs.length) (h1 : vs.all (·.oneCell') = true)
    (hK : ∀ W', Hid (Hp w0 W' l') → wpList P ops Q rest a W') : wpList P ops Q (o :: rest) a w :=
  wpList_storeB ho hg hd hT hp hx (H.out.get hu.mem) hl (by simpa using hk) h1 (by simpa using hc) fun W' hz hb => hK W' (H.out.stored hu hz hb.out)
theorem wpList_storeH1 (H : Hid (Hp w0 w l)) {t T : TypeId} {p x : Operand} {b k : Nat} {cs ds : List Value} {v : Value} (ho : o.op = .store t p x) (hg : o.guard = none) (hd : o.dst = none) (hT : (P.info? t).map (·.size) = some 1) (hp : a.eval p = .pointer (some ⟨b, k, none⟩)) (hx : a.eval x = v)
    (hu : Upd l b T cs ds l') (hc : cs.set k v = ds) (hk : k < cs.length) (h1 : v.oneCell' = true) (hv : v.cells = #[v])
    (hK : ∀ W', Hid (Hp w0 W' l') → wpList P ops Q rest a W') : wpList P ops Q (o :: rest) a w :=
  wpList_storeC ho hg hd hT hp hx (H.out.get hu.mem) (by simpa using hk) h1 hv (by simpa using hc) fun W' hz hb => hK W' (H.out.stored hu hz hb.out)
theorem wpList_boxH (H : Hid (Hp w0 w l)) {t : TypeId} {x : Operand} {d : Tmp} {v : Value} {cs : List Value} (ho : o.op = .box t x) (hg : o.guard = none) (hd : o.dst = some d) (hx : a.eval x = v) (hc : v.cells = cs.toArray)
    (hK : ∀ (b : Nat) W', Hid (Hp w0 W' ((b, t, cs) :: l)) → wpList P ops Q rest (a.put (some d) (.pointer (some ⟨b, 0, none⟩))) W') : wpList P ops Q (o :: rest) a w :=
  wpList_newB (cs := cs) (t := t) hg hd (fun W => by
    unfold execOp
    simp only [ho, hx]
    simp [go_sem]
    show W.alloc (.cells v.cells t) = _
    rw [hc]) fun b W' h1 h2 h3 => hK b W' (H.out.fresh h2 h1 h3.out)
theorem wpList_allocH (H : Hid (Hp w0 w l)) {t : TypeId} {d : Tmp} {z : Value} {cs : List Value} (ho : o.op = .alloc t) (hg : o.guard = none) (hd : o.dst = some d) (hz : (P.info? t).bind (·.zero) = some z) (hc : z.cells = cs.toArray)
    (hK : ∀ (b : Nat) W', Hid (Hp w0 W' ((b, t, cs) :: l)) → wpList P ops Q rest (a.put (some d) (.pointer (some ⟨b, 0, none⟩))) W') : wpList P ops Q (o :: rest) a w := by
  have hi : ∃ i, P.info? t = some i ∧ i.zero = some z := by
    cases hq : P.info? t with
    | none => simp [hq] at hz
    | some i => exact ⟨i, rfl, by simpa [hq] using hz⟩
  obtain ⟨i, hi1, hi2⟩ := hi
  exact wpList_newB (cs := cs) (t := t) hg hd (fun W => by
    unfold execOp
    simp only [ho]
    simp [go_sem, zeroValue, typeInfo, hi1, hi2]
    show W.alloc (.cells z.cells t) = _
    rw [hc]) fun b W' h1 h2 h3 => hK b W' (H.out.fresh h2 h1 h3.out)

/-! A region that draws its order: the head -/
theorem wpK_step {R : Act → Prop}
    (h : ∀ K : Act → Prop, (∀ a, wpKeep P ops w R rest a → K a) → if Region.wanted o (yielded ops a.tmps) then (∃ v, (∀ s : Ext w, Oper.quietUpon P (fun w'' => Below s.to.heap.size s.to w'') s.to v ((execOp a.eval o).run P s.to)) ∧ K (a.put o.dst v)) else K (a.put o.dst undef)) : wpKeep P ops w R (o :: rest) a := h _ (fun _ h => h)
theorem wpK_loadH (H : Hid (Hp w0 w l)) {R : Act → Prop} {t T : TypeId} {p : Operand} {b k n : Nat} {cs ds : List Value} (ho : o.op = .load t p) (hg : Region.wanted o (yielded ops a.tmps) = true) (hT : RowT P t n) (hp : a.eval p = .pointer (some ⟨b, k, none⟩))
    (hm : (b, T, cs) ∈ l) (hx : (cs.drop k).take n = ds) (hl : ds.length = n) (hK : wpKeep P ops w R rest (a.put o.dst (.agg ds.toArray))) : wpKeep P ops w R (o :: rest) a :=
  wpKeep_loadB ho hg hT hp (H.out.get hm) (by simpa using hx) hl hK
theorem run_loadC {t T : TypeId} {b k : Nat} {cs : Array Value} {v : Value} (hT : ∃ d, P.underlying t = some d ∧ d.isRow = false) (h : Blk w b T cs) (hx : cs[k]? = some v) : (Instr.loadAt t (.pointer (some ⟨b, k, none⟩))).run P w = .ok v w := by
  obtain ⟨d, h1, h2⟩ := hT
  have hc : w.cell? ⟨b, k, none⟩ = some v := by rw [h.cell]; exact hx
  have hagg : (isAgg t).run P w = .ok false w := by
    unfold isAgg
    rw [Sem.run_bind, run_underlying h1 w]
    cases d <;> simp_all
  simp only [Instr.loadAt, Instr.sureAddr, loadVar, Sem.run_bind, Sem.run_pure, Result.andThen_ok, hagg]
  simp [hc, go_sem]
theorem wpK_loadH1 (H : Hid (Hp w0 w l)) {R : Act → Prop} {t T : TypeId} {p : Operand} {b k : Nat} {cs : List Value} {v : Value} (ho : o.op = .load t p) (hg : Region.wanted o (yielded ops a.tmps) = true) (hT : ∃ d, P.underlying t = some d ∧ d.isRow = false) (hp : a.eval p = .pointer (some ⟨b, k, none⟩))
    (hm : (b, T, cs) ∈ l) (hx : cs[k]? = some v) (hK : wpKeep P ops w R rest (a.put o.dst v)) : wpKeep P ops w R (o :: rest) a := by
  unfold wpKeep
  rw [if_pos hg]
  refine ⟨v, fun s => ?_, hK⟩
  have hb : Blk s.to b T cs.toArray := (H.out.get hm).out.below s.h (H.out.get hm).out.lt
  have hr := run_loadC (P := P) (t := t) (k := k) hT hb (by simpa using hx)
  unfold keepsAt execOp
  simp only [ho, hp, hr, Sem.run_bind, Sem.run_pure, Result.andThen_ok]
  exact ⟨rfl, rfl⟩
theorem wpQuiet_of_keep {R : Act → Prop} : ∀ (l : List Oper) (a : Act), wpKeep P ops w R l a → wpQuiet P ops (fun w' => ∃ s : Ext w, w' = s.to) R l a
  | [], a, h => h
  | o :: rest, a, h => by
    unfold wpKeep at h
    unfold wpQuiet
    split
    · rename_i hw
      rw [if_pos hw] at h
      obtain ⟨v, h1, h2⟩ := h
      refine ⟨v, ?_, wpQuiet_of_keep rest _ h2⟩
      rintro _ ⟨s, rfl⟩
      exact quietUpon_mono (fun w' hb => ⟨⟨w', s.h.trans (hb.mono s.h.size)⟩, rfl⟩) (h1 s)
    · rename_i hw
      rw [if_neg hw] at h
      exact wpQuiet_of_keep rest _ h
/-- All operations read or call. -/
theorem wp_region_E {id : Nat} {ol : List Oper} (H : Hid (Hp w0 w l)) (hm : P.follows .mixedOrders = true) (hB : Region.lexB .any ol.toArray = true)
    (h : wpKeep P ol.toArray w (fun a' => ∀ W, Hid (Hp w0 W l) → Q .normal a' W) ol a) : (Code.region id ol.toArray true).wp P Q a w := by
  refine wp_region_ext hm hB (wpQuiet_of_keep ol a ?_)
  have mono : ∀ (l' : List Oper) (a : Act) {R R' : Act → Prop}, (∀ a, R a → R' a) → wpKeep P ol.toArray w R l' a → wpKeep P ol.toArray w R' l' a := by
    intro l'
    induction l' with
    | nil => intro a R R' hR h; exact hR _ h
    | cons o r ih =>
      intro a R R' hR h
      unfold wpKeep at h ⊢
      split
      · rename_i hw
        rw [if_pos hw] at h
        obtain ⟨v, h1, h2⟩ := h
        exact ⟨v, h1, ih _ hR h2⟩
      · rename_i hw
        rw [if_neg hw] at h
        exact ih _ hR h
  refine mono ol a (fun a' h1 w' hw' => ?_) h
  obtain ⟨s, rfl⟩ := hw'
  exact h1 _ (H.out.go s.h)
/-- n operations read or call; the rest comes in one forced order. -/
theorem wp_region_T {id : Nat} {ol : List Oper} (n : Nat) (H : Hid (Hp w0 w l)) (hm : P.follows .mixedOrders = true) (hB : Region.lexTailB .any ol.toArray n = true)
    (h : wpKeep P ol.toArray w (fun a' => ∀ W, Hid (Hp w0 W l) → wpList P ol.toArray Q (ol.drop n) a' W) (ol.take n) a) : (Code.region id ol.toArray true).wp P Q a w := by
  refine wp_region_fresh n [] hm (by simpa using hB) (by simp [AllAlloc]) ?_
  have mono : ∀ (l' : List Oper) (a : Act) {R R' : Act → Prop}, (∀ a, R a → R' a) → wpKeep P ol.toArray w R l' a → wpKeep P ol.toArray w R' l' a := by
    intro l'
    induction l' with
    | nil => intro a R R' hR h; exact hR _ h
    | cons o r ih =>
      intro a R R' hR h
      unfold wpKeep at h ⊢
      split
      · rename_i hw
        rw [if_pos hw] at h
        obtain ⟨v, h1, h2⟩ := h
        exact ⟨v, h1, ih _ hR h2⟩
      · rename_i hw
        rw [if_neg hw] at h
        exact ih _ hR h
  refine mono _ a (fun a' h1 => ?_) h
  simp only [List.length_nil, List.take_zero, wpNew, Nat.add_zero]
  intro W hW
  exact h1 W (H.out.go hW.1)
/-- .. a new block between. -/
theorem wp_region_F1 {id : Nat} {ol : List Oper} {o1 : Oper} {t : TypeId} {cs : List Value} (n : Nat) (H : Hid (Hp w0 w l)) (hm : P.follows .mixedOrders = true) (hB : Region.lexTailB .any ol.toArray (n + 1) = true)
    (ho : ol.drop n = o1 :: ol.drop (n + 1)) (hA : Allocs P ol.toArray o1 (.cells cs.toArray t))
    (h : wpKeep P ol.toArray w (fun a' => ∀ b W, Hid (Hp w0 W ((b, t, cs) :: l)) → wpList P ol.toArray Q (ol.drop (n + 1)) (a'.put o1.dst (.pointer (some ⟨b, 0, none⟩))) W) (ol.take n) a) : (Code.region id ol.toArray true).wp P Q a w := by
  refine wp_region_fresh n [.cells cs.toArray t] hm (by simpa using hB) (by rw [ho]; simp [AllAlloc, hA]) ?_
  have mono : ∀ (l' : List Oper) (a : Act) {R R' : Act → Prop}, (∀ a, R a → R' a) → wpKeep P ol.toArray w R l' a → wpKeep P ol.toArray w R' l' a := by
    intro l'
    induction l' with
    | nil => intro a R R' hR h; exact hR _ h
    | cons o r ih =>
      intro a R R' hR h
      unfold wpKeep at h ⊢
      split
      · rename_i hw
        rw [if_pos hw] at h
        obtain ⟨v, h1, h2⟩ := h
        exact ⟨v, h1, ih _ hR h2⟩
      · rename_i hw
        rw [if_neg hw] at h
        exact ih _ hR h
  refine mono _ a (fun a' h1 => ?_) h
  rw [ho]
  simp only [List.length_cons, List.length_nil, List.take_succ_cons, List.take_zero, wpNew, Nat.zero_add]
  intro g hg hn W hW
  exact h1 g W (H.out.fresh hW.1 hg (hW.2 g _ (.inl ⟨rfl, rfl⟩)))

/-! .. with a store that floats -/
theorem wpKZ_step {z : Nat} {R : Act → Prop}
    (h : ∀ K : Act → Prop, (∀ a, wpKeepZ P ops w z R rest a → K a) → if Region.wanted o (yielded ops a.tmps) then (∃ v, (∀ s : ExtZ w z, Oper.quietUpon P (fun w'' => Below s.to.heap.size s.to w'') s.to v ((execOp a.eval o).run P s.to)) ∧ K (a.put o.dst v)) else K (a.put o.dst undef)) : wpKeepZ P ops w z R (o :: rest) a := h _ (fun _ h => h)
theorem Upd.ne {l l' : Ents} {b z : Nat} {T U : TypeId} {cs ds es : List Value} (hu : Upd l z U ds es l') (hm : (b, T, cs) ∈ l) (hne : b ≠ z) : b ≠ z := hne
theorem wpKZ_loadH (H : Hid (Hp w0 w l)) {z : Nat} {R : Act → Prop} {t T : TypeId} {p : Operand} {b k n : Nat} {cs ds : List Value} (ho : o.op = .load t p) (hg : Region.wanted o (yielded ops a.tmps) = true) (hT : RowT P t n) (hp : a.eval p = .pointer (some ⟨b, k, none⟩))
    (hm : (b, T, cs) ∈ l) (hne : b ≠ z) (hx : (cs.drop k).take n = ds) (hl : ds.length = n) (hK : wpKeepZ P ops w z R rest (a.put o.dst (.agg ds.toArray))) : wpKeepZ P ops w z R (o :: rest) a :=
  wpKeepZ_loadB ho hg hT hp (H.out.get hm) hne (by simpa using hx) hl hK
/-- The store that floats writes a whole struct. -/
structure StoreOK (P : Program) (os : Oper) (a : Act) (z n : Nat) (vs : List Value) : Prop where
  op : ∃ t p x, os.op = .store t p x ∧ RowT P t n ∧ a.eval p = .pointer (some ⟨z, 0, none⟩) ∧ a.eval x = .agg vs.toArray
  g : os.guard = none
  d : os.dst = none
  l : vs.length = n
  o : vs.all (·.oneCell') = true
theorem wp_region_P {id : Nat} {ol : List Oper} {os : Oper} {z m : Nat} {T : TypeId} {cs vs : List Value} (n : Nat) (H : Hid (Hp w0 w l)) (hu : Upd l z T cs vs l') (hl : cs.length = m) (hm : P.follows .mixedOrders = true) (hB : Region.lexTailB .any ol.toArray (n + 1) = true)
    (hos : ol[n]? = some os)
    (h : wpKeepZ P ol.toArray w z (fun a' => StoreOK P os a' z m vs ∧ ∀ W, Hid (Hp w0 W l') → wpList P ol.toArray Q (ol.drop (n + 1)) a' W) (ol.take n) a) : (Code.region id ol.toArray true).wp P Q a w := by
  have hb := (H.out.get hu.mem).out
  refine wp_region_put n z (.cells cs.toArray T (0, 0)) (.cells vs.toArray T (0, 0)) hm hB hos hb ?_
  have mono : ∀ (l' : List Oper) (a : Act) {R R' : Act → Prop}, (∀ a, R a → R' a) → wpKeepZ P ol.toArray w z R l' a → wpKeepZ P ol.toArray w z R' l' a := by
    intro l'
    induction l' with
    | nil => intro a R R' hR h; exact hR _ h
    | cons o r ih =>
      intro a R R' hR h
      unfold wpKeepZ at h ⊢
      split
      · rename_i hw
        rw [if_pos hw] at h
        obtain ⟨v, h1, h2⟩ := h
        exact ⟨v, h1, ih _ hR h2⟩
      · rename_i hw
        rw [if_neg hw] at h
        exact ih _ hR h
  refine mono _ a (fun a' h1 => ?_) h
  obtain ⟨hS, h2⟩ := h1
  obtain ⟨t, p, x, ho, hT, hp, hx⟩ := hS.op
  refine ⟨⟨by simp [Region.wanted, hS.g], fun W hW => ?_⟩, fun W hz hW => ?_⟩
  · have hk : Blk W z T cs.toArray := hW
    have hvl := hS.l
    have hs : (sizeOf t).run P W = .ok vs.length W := by
      have h3 := hT.s
      cases hq : P.info? t with
      | none => simp [hq] at h3
      | some i =>
        have h4 : i.size = m := by simpa [hq] using h3
        simp [sizeOf, typeInfo, hq, h4, hvl]
    have hr := run_storeAt (P := P) (t := t) hk (by simp [hvl, hl]) (by simpa using hS.o) hs
    refine ⟨W.setCells z 0 vs, ?_, blk_setAll vs hk (by simp [hvl, hl]), (setCells_far vs 0 W).1, (setCells_far vs 0 W).2⟩
    unfold execOp
    rw [ho]
    simp only [hp, hx]
    generalize Instr.storeAt t (.pointer (some ⟨z, 0, none⟩)) (.agg vs.toArray) = I at hr ⊢
    simp [go_sem, hr]
  · have : a'.put os.dst undef = a' := by rw [hS.d]; rfl
    rw [this]
    exact h2 W (H.out.stored hu hz hW)
end

/-! Which operation stands at the head: asked before a law is tried, so that what does not fit fails at once -/
section
variable {P : Program} {ops : Array Oper} {rest : List Oper} {o : Oper} {a : Act} {w : World} {Q : Exit → Act → World → Prop}
variable {d : Option Tmp} {ty : TypeId} {po : String} {af : Array Edge} {g : Option (Nat × Bool)}
theorem isLoad {t : TypeId} {p : Operand} (h : wpList P ops Q (⟨d, .load t p, ty, po, af, g⟩ :: rest) a w) : wpList P ops Q (⟨d, .load t p, ty, po, af, g⟩ :: rest) a w := h
theorem isStore {t : TypeId} {p x : Operand} (h : wpList P ops Q (⟨d, .store t p x, ty, po, af, g⟩ :: rest) a w) : wpList P ops Q (⟨d, .store t p x, ty, po, af, g⟩ :: rest) a w := h
theorem isBox {t : TypeId} {x : Operand} (h : wpList P ops Q (⟨d, .box t x, ty, po, af, g⟩ :: rest) a w) : wpList P ops Q (⟨d, .box t x, ty, po, af, g⟩ :: rest) a w := h
theorem isAlloc {t : TypeId} (h : wpList P ops Q (⟨d, .alloc t, ty, po, af, g⟩ :: rest) a w) : wpList P ops Q (⟨d, .alloc t, ty, po, af, g⟩ :: rest) a w := h
theorem kLoad {R : Act → Prop} {t : TypeId} {p : Operand} (h : wpKeep P ops w R (⟨d, .load t p, ty, po, af, g⟩ :: rest) a) : wpKeep P ops w R (⟨d, .load t p, ty, po, af, g⟩ :: rest) a := h
theorem kzLoad {z : Nat} {R : Act → Prop} {t : TypeId} {p : Operand} (h : wpKeepZ P ops w z R (⟨d, .load t p, ty, po, af, g⟩ :: rest) a) : wpKeepZ P ops w z R (⟨d, .load t p, ty, po, af, g⟩ :: rest) a := h
theorem kCall {R : Act → Prop} {c : Call} (h : wpKeep P ops w R (⟨d, .call c, ty, po, af, g⟩ :: rest) a) : wpKeep P ops w R (⟨d, .call c, ty, po, af, g⟩ :: rest) a := h
theorem kzCall {z : Nat} {R : Act → Prop} {c : Call} (h : wpKeepZ P ops w z R (⟨d, .call c, ty, po, af, g⟩ :: rest) a) : wpKeepZ P ops w z R (⟨d, .call c, ty, po, af, g⟩ :: rest) a := h
theorem kCons {R : Act → Prop} (h : wpKeep P ops w R (o :: rest) a) : wpKeep P ops w R (o :: rest) a := h
theorem kzCons {z : Nat} {R : Act → Prop} (h : wpKeepZ P ops w z R (o :: rest) a) : wpKeepZ P ops w z R (o :: rest) a := h
theorem wanted_none {y : Nat → Option Bool} (h : o.guard = none) : Region.wanted o y = true := by simp [Region.wanted, h]
end

/-! The results -/
section
variable {P : Program} {fn : Func} {tmps : Array Value} {w0 w : World} {l : Ents}
theorem results_H (H : Hid (Hp w0 w l)) {r : Nat} {t T : TypeId} {b n : Nat} {cs : List Value} (hr : fn.results = #[.cell r t]) (hT : RowT P t n) (hp : tmps.getD r undef = .pointer (some ⟨b, 0, none⟩)) (hm : (b, T, cs) ∈ l) (hl : cs.length = n) :
    (results fn tmps).run P w = .ok (.agg cs.toArray) w := results_B hr hp (H.out.get hm) hT (by simpa using hl)
theorem results_Hv (H : Hid (Hp w0 w l)) {r k : Nat} {t T : TypeId} {b n : Nat} {cs : List Value} {v : Value} (hr : fn.results = #[.cell r t, .tmp k]) (hT : RowT P t n) (hp : tmps.getD r undef = .pointer (some ⟨b, 0, none⟩)) (hm : (b, T, cs) ∈ l) (hv : tmps.getD k undef = v) (hl : cs.length = n) :
    (results fn tmps).run P w = .ok (.tuple #[.agg cs.toArray, v]) w := results_Bv hr hp hv (H.out.get hm) hT (by simpa using hl)
theorem results_HH (H : Hid (Hp w0 w l)) {r r2 : Nat} {t T t2 T2 : TypeId} {b n b2 n2 : Nat} {cs cs2 : List Value} (hr : fn.results = #[.cell r t, .cell r2 t2]) (hT : RowT P t n) (hT2 : RowT P t2 n2) (hp : tmps.getD r undef = .pointer (some ⟨b, 0, none⟩)) (hm : (b, T, cs) ∈ l) (hp2 : tmps.getD r2 undef = .pointer (some ⟨b2, 0, none⟩)) (hm2 : (b2, T2, cs2) ∈ l) (hl : cs.length = n) (hl2 : cs2.length = n2) :
    (results fn tmps).run P w = .ok (.tuple #[.agg cs.toArray, .agg cs2.toArray]) w := results_BB hr hp hp2 (H.out.get hm) (H.out.get hm2) hT hT2 (by simpa using hl) (by simpa using hl2)
end
end Go.Proofs.Ythepafendopfhaa

namespace Go.Proofs.Ythepafendopfhaa
open Go.RowKit
set_option linter.unusedVariables false
section
variable {P : Program} {ops : Array Oper} {rest : List Oper} {o : Oper} {a : Act} {w0 w : World} {l l' : Ents} {Q : Exit → Act → World → Prop}
theorem StoreOK.stores {os : Oper} {z m : Nat} {T : TypeId} {cs vs : List Value} (hS : StoreOK P os a z m vs) (hl : cs.length = m) : StoresZ P ops os a z (.cells cs.toArray T (0, 0)) (.cells vs.toArray T (0, 0)) := by
  obtain ⟨t, p, x, ho, hT, hp, hx⟩ := hS.op
  refine ⟨by simp [Region.wanted, hS.g], fun W hW => ?_⟩
  have hk : Blk W z T cs.toArray := hW
  have hvl := hS.l
  have hs : (sizeOf t).run P W = .ok vs.length W := by
    have h3 := hT.s
    cases hq : P.info? t with
    | none => simp [hq] at h3
    | some i =>
      have h4 : i.size = m := by simpa [hq] using h3
      simp [sizeOf, typeInfo, hq, h4, hvl]
  have hr := run_storeAt (P := P) (t := t) hk (by simp [hvl, hl]) (by simpa using hS.o) hs
  refine ⟨W.setCells z 0 vs, ?_, blk_setAll vs hk (by simp [hvl, hl]), (setCells_far vs 0 W).1, (setCells_far vs 0 W).2⟩
  unfold execOp
  rw [ho]
  simp only [hp, hx]
  generalize Instr.storeAt t (.pointer (some ⟨z, 0, none⟩)) (.agg vs.toArray) = I at hr ⊢
  simp [go_sem, hr]
/-- n operations read or call, a block is made, a whole struct stored into it: the reads and calls in any order. -/
theorem wp_region_G {id : Nat} {ol : List Oper} {o1 os : Oper} {t : TypeId} {cs vs : List Value} {m : Nat} (n : Nat) (H : Hid (Hp w0 w l)) (hm : P.follows .mixedOrders = true) (hB : Region.lexTailB .any ol.toArray (n + 2) = true)
    (ho1 : ol[n]? = some o1) (hos : ol[n + 1]? = some os) (hA : Allocs P ol.toArray o1 (.cells cs.toArray t)) (hdep : os.after.any (fun e => Region.binds .any e && e.on == n) = true) (hd : os.dst = none) (hl : cs.length = m)
    (h : wpKeep P ol.toArray w (fun a' => ∀ b, StoreOK P os (a'.put o1.dst (.pointer (some ⟨b, 0, none⟩))) b m vs ∧ ∀ W, Hid (Hp w0 W ((b, t, vs) :: l)) → wpList P ol.toArray Q (ol.drop (n + 2)) (a'.put o1.dst (.pointer (some ⟨b, 0, none⟩))) W) (ol.take n) a) : (Code.region id ol.toArray true).wp P Q a w := by
  refine wp_region_newput n (.cells cs.toArray t (0, 0)) (.cells vs.toArray t (0, 0)) hm hB ho1 hos hA hdep ?_
  have mono : ∀ (l' : List Oper) (a : Act) {R R' : Act → Prop}, (∀ a, R a → R' a) → wpKeep P ol.toArray w R l' a → wpKeep P ol.toArray w R' l' a := by
    intro l'
    induction l' with
    | nil => intro a R R' hR h; exact hR _ h
    | cons o r ih =>
      intro a R R' hR h
      unfold wpKeep at h ⊢
      split
      · rename_i hw
        rw [if_pos hw] at h
        obtain ⟨v, h1, h2⟩ := h
        exact ⟨v, h1, ih _ hR h2⟩
      · rename_i hw
        rw [if_neg hw] at h
        exact ih _ hR h
  refine mono _ a (fun a' h1 z hz => ?_) h
  obtain ⟨hS, h2⟩ := h1 z
  refine ⟨hS.stores hl, fun W hW hW2 => ?_⟩
  have e : (a'.put o1.dst (.pointer (some ⟨z, 0, none⟩))).put os.dst undef = a'.put o1.dst (.pointer (some ⟨z, 0, none⟩)) := by rw [hd]; rfl
  rw [e]
  exact h2 W (H.out.fresh hW hz hW2)
end
end Go.Proofs.Ythepafendopfhaa

namespace Go.Proofs.Ythepafendopfhaa
open Go.RowKit
set_option linter.unusedVariables false

theorem Hp.drop {w0 w : World} {l : Ents} {x : Nat × TypeId × List Value} (h : Hp w0 w (x :: l)) : Hp w0 w l := ⟨fun y hy => h.blk y (.tail _ hy), (List.nodup_cons.1 h.nd).2, h.bel, h.t0⟩
def ovOf : Ents → Ov
  | [] => fun _ => none
  | (g, t, cs) :: l => (ovOf l).put g (.cells cs.toArray t (0, 0))
theorem ovOf_some {l : Ents} {k : Nat} {b : Obj} (h : ovOf l k = some b) : ∃ x ∈ l, x.1 = k := by
  induction l with
  | nil => cases h
  | cons x l ih =>
    obtain ⟨g, t, cs⟩ := x
    unfold ovOf Ov.put at h
    by_cases hk : k = g
    · exact ⟨_, .head _, hk.symm⟩
    · rw [if_neg hk] at h
      obtain ⟨x, hx, he⟩ := ih h
      exact ⟨x, .tail _ hx, he⟩
theorem ovOf_mem {l : Ents} (hn : (l.map (·.1)).Nodup) {x : Nat × TypeId × List Value} (hx : x ∈ l) : ovOf l x.1 = some (.cells x.2.2.toArray x.2.1 (0, 0)) := by
  induction l with
  | nil => cases hx
  | cons y l ih =>
    obtain ⟨g, t, cs⟩ := y
    rw [List.map_cons, List.nodup_cons] at hn
    unfold ovOf Ov.put
    rcases List.mem_cons.1 hx with rfl | hx
    · rw [if_pos rfl]
    · rw [if_neg (fun e => hn.1 (by rw [← e]; exact List.mem_map.2 ⟨x, hx, rfl⟩))]
      exact ih hn.2 hx
theorem ovOf_mem_b {l : Ents} (hn : (l.map (·.1)).Nodup) {k : Nat} {b : Obj} (h : ovOf l k = some b) : ∃ x ∈ l, x.1 = k ∧ b = .cells x.2.2.toArray x.2.1 (0, 0) := by
  obtain ⟨x, hx, rfl⟩ := ovOf_some h
  have := ovOf_mem hn hx
  rw [h] at this
  injection this with this
  exact ⟨x, hx, rfl, this⟩
theorem ovOf_upd {l l' : Ents} {z : Nat} {T : TypeId} {cs ds : List Value} (h : Upd l z T cs ds l') (hn : (l.map (·.1)).Nodup) : ovOf l' = (ovOf l).put z (.cells ds.toArray T (0, 0)) := by
  induction h with
  | head =>
    rename_i z _ _ _ _
    funext k
    show Ov.put (ovOf _) _ _ k = Ov.put (Ov.put (ovOf _) _ _) _ _ k
    unfold Ov.put
    by_cases hk : k = z
    · rw [if_pos hk, if_pos hk]
    · rw [if_neg hk, if_neg hk, if_neg hk]
  | tail h ih =>
    rename_i z _ _ _ l1 l2 y
    obtain ⟨g, t, es⟩ := y
    rw [List.map_cons, List.nodup_cons] at hn
    have hne : z ≠ g := fun e => hn.1 (by rw [← e]; exact List.mem_map.2 ⟨_, h.mem, rfl⟩)
    show (ovOf l2).put g _ = ((ovOf l1).put g _).put z _
    rw [ih hn.2, Ov.put_comm _ _ _ hne]

section
variable {P : Program} {ops : Array Oper} {rest : List Oper} {o : Oper} {a : Act} {w0 w : World} {l l' : Ents} {Q : Exit → Act → World → Prop} {kd : Nat → Kd} {k : Nat} {R : Act → Ents → Prop}
def YieldsL (P : Program) (ops : Array Oper) (w0 w : World) (l : Ents) (o : Oper) (v : Value) (a : Act) : Prop :=
  (Region.wanted o (yielded ops a.tmps) = true ∧ ∀ W, (ovOf l).ok w W → Hid (Hp w0 W l) → keepsAt P o a W v) ∨ (Region.wanted o (yielded ops a.tmps) = false ∧ v = undef)
/-- The walk over the list of blocks. -/
def wpL (P : Program) (ops : Array Oper) (w0 w : World) (kd : Nat → Kd) (R : Act → Ents → Prop) : Nat → List Oper → Act → Ents → Prop
  | _, [], a, l => R a l
  | k, o :: os, a, l =>
    (kd k = .q ∧ ∃ v, YieldsL P ops w0 w l o v a ∧ wpL P ops w0 w kd R (k + 1) os (a.put o.dst v) l) ∨
    (kd k = .p ∧ ∃ v, YieldsP P ops (fun _ => True) w o v a ∧ wpL P ops w0 w kd R (k + 1) os (a.put o.dst v) l) ∨
    (kd k = .a ∧ ∃ mk t cs, AllocsAt P ops o a mk (.cells cs.toArray t (0, 0)) ∧ ∀ g, wpL P ops w0 w kd R (k + 1) os (a.put o.dst (mk g)) ((g, t, cs) :: l)) ∨
    (kd k = .s ∧ ∃ z T cs ds l', Upd l z T cs ds l' ∧ StoresZ P ops o a z (.cells cs.toArray T (0, 0)) (.cells ds.toArray T (0, 0)) ∧ wpL P ops w0 w kd R (k + 1) os (a.put o.dst undef) l')
theorem wpL_nil (h : R a l) : wpL P ops w0 w kd R k [] a l := h
theorem wpL_P {v : Value} (hp : kd k = .p) (hg : Region.wanted o (yielded ops a.tmps) = true) (hr : ∀ W, (execOp a.eval o).run P W = .ok (.value v) W) (h : wpL P ops w0 w kd R (k + 1) rest (a.put o.dst v) l) : wpL P ops w0 w kd R k (o :: rest) a l :=
  .inr (.inl ⟨hp, v, .inl ⟨hg, fun W _ => by unfold keepsAt; rw [hr W]; exact ⟨rfl, rfl⟩⟩, h⟩)
theorem wpL_C {v : Value} (hp : kd k = .q) (hg : Region.wanted o (yielded ops a.tmps) = true) (hr : ∀ W, Hid (Hp w0 W l) → keepsAt P o a W v) (h : wpL P ops w0 w kd R (k + 1) rest (a.put o.dst v) l) : wpL P ops w0 w kd R k (o :: rest) a l :=
  .inl ⟨hp, v, .inl ⟨hg, fun W _ hW => hr W hW⟩, h⟩
theorem wpL_load {t T : TypeId} {p : Operand} {b j n : Nat} {cs ds : List Value} (hk : kd k = .q) (ho : o.op = .load t p) (hg : Region.wanted o (yielded ops a.tmps) = true) (hT : RowT P t n) (hp : a.eval p = .pointer (some ⟨b, j, none⟩))
    (hm : (b, T, cs) ∈ l) (hx : (cs.drop j).take n = ds) (hl : ds.length = n) (h : wpL P ops w0 w kd R (k + 1) rest (a.put o.dst (.agg ds.toArray)) l) : wpL P ops w0 w kd R k (o :: rest) a l :=
  wpL_C hk hg (fun W hW => by
    have hr := run_loadB (P := P) (t := t) (k := j) (hW.out.get hm) hT (by simpa using hx) hl
    unfold keepsAt execOp
    simp only [ho, hp, hr, Sem.run_bind, Sem.run_pure, Result.andThen_ok]
    exact ⟨rfl, rfl⟩) h
theorem wpL_A {t : TypeId} {cs : List Value} (hp : kd k = .a) (hA : Allocs P ops o (.cells cs.toArray t)) (h : ∀ g, wpL P ops w0 w kd R (k + 1) rest (a.put o.dst (.pointer (some ⟨g, 0, none⟩))) ((g, t, cs) :: l)) : wpL P ops w0 w kd R k (o :: rest) a l :=
  .inr (.inr (.inl ⟨hp, fun g => .pointer (some ⟨g, 0, none⟩), t, cs, ⟨(hA a w).1, fun W => (hA a W).2⟩, h⟩))
theorem wpL_V (t : TypeId) (cs : List Value) (n : Nat) (hp : kd k = .a) (hg : o.guard = none) (hr : ∀ W : World, (execOp a.eval o).run P W = .ok (.value (.slice (some ⟨W.heap.size, 0, none⟩) n n)) (W.alloc (.cells cs.toArray t)))
    (h : ∀ g, wpL P ops w0 w kd R (k + 1) rest (a.put o.dst (.slice (some ⟨g, 0, none⟩) n n)) ((g, t, cs) :: l)) : wpL P ops w0 w kd R k (o :: rest) a l :=
  .inr (.inr (.inl ⟨hp, fun g => .slice (some ⟨g, 0, none⟩) n n, t, cs, ⟨by simp [Region.wanted, hg], hr⟩, h⟩))
theorem storesZ_part {t T : TypeId} {p x : Operand} {z off c : Nat} {cs vs ds : List Value} (ho : o.op = .store t p x) (hg : o.guard = none) (hT : RowT P t c) (hp : a.eval p = .pointer (some ⟨z, off, none⟩)) (hx : a.eval x = .agg vs.toArray)
    (hl : vs.length = c) (hc : cs.take off ++ vs ++ cs.drop (off + c) = ds) (hk : off + c ≤ cs.length) (h1 : vs.all (·.oneCell') = true) : StoresZ P ops o a z (.cells cs.toArray T (0, 0)) (.cells ds.toArray T (0, 0)) := by
  refine ⟨by simp [Region.wanted, hg], fun W hW => ?_⟩
  have hb : Blk W z T cs.toArray := hW
  have hr := run_storeAt_mid (P := P) W z off t vs.toArray (there_of hb (by simpa [hl] using hk)) (by rw [hT.s]; simp [hl]) (all_oneCell_toArray (by simpa using h1))
  have h2 := blk_splice vs off cs.toArray W hb (by simpa [hl] using hk)
  rw [hl] at h2
  simp only [hc] at h2
  refine ⟨W.setCells z off vs, ?_, h2, (setCells_far vs off W).1, (setCells_far vs off W).2⟩
  unfold execOp
  rw [ho]
  simp only [hp, hx]
  generalize Instr.storeAt t (.pointer (some ⟨z, off, none⟩)) (.agg vs.toArray) = I at hr ⊢
  simp [go_sem, hr]
theorem wpL_S {t T : TypeId} {p x : Operand} {z off c : Nat} {cs vs ds : List Value} (hP : kd k = .s) (ho : o.op = .store t p x) (hg : o.guard = none) (hd : o.dst = none) (hT : RowT P t c) (hp : a.eval p = .pointer (some ⟨z, off, none⟩)) (hx : a.eval x = .agg vs.toArray)
    (hu : Upd l z T cs ds l') (hl : vs.length = c) (hc : cs.take off ++ vs ++ cs.drop (off + c) = ds) (hk : off + c ≤ cs.length) (h2 : vs.all (·.oneCell') = true) (h : wpL P ops w0 w kd R (k + 1) rest a l') : wpL P ops w0 w kd R k (o :: rest) a l :=
  .inr (.inr (.inr ⟨hP, z, T, cs, ds, l', hu, storesZ_part ho hg hT hp hx hl hc hk h2, by rw [hd]; exact h⟩))

theorem Hp.of_ov {W : World} (h : Hp w0 w l) (nd : (l'.map (·.1)).Nodup) (lo : ∀ x ∈ l', w0.heap.size ≤ x.1) (hok : (ovOf l').ok w W) : Hp w0 W l' :=
  ⟨fun x hx => ⟨lo x hx, hok.has _ _ (ovOf_mem nd hx)⟩, nd, h.bel.trans ⟨hok.all.os, hok.all.tape, hok.all.output, hok.all.size, fun k hk => hok.keep k (Nat.lt_of_lt_of_le hk h.bel.size) (by
    cases hu : ovOf l' k with
    | none => rfl
    | some b =>
      obtain ⟨x, hx, he⟩ := ovOf_some hu
      have := lo x hx
      omega)⟩, h.t0⟩
theorem wpU_of (h0 : Hp w0 w l) {R' : Act → Ov → Prop} (os : List Oper) : ∀ (k : Nat) (a : Act) (l1 : Ents), (l1.map (·.1)).Nodup → (∀ x ∈ l1, w0.heap.size ≤ x.1) →
    (∀ a' l2, (l2.map (·.1)).Nodup → (∀ x ∈ l2, w0.heap.size ≤ x.1) → R a' l2 → R' a' (ovOf l2)) → wpL P ops w0 w kd R k os a l1 → wpU P ops (fun _ => True) w kd R' k os a (ovOf l1) := by
  induction os with
  | nil => intro k a l1 nd lo hR h; exact hR a l1 nd lo h
  | cons o os ih =>
    intro k a l1 nd lo hR h
    show Eff P ops (fun _ => True) w o a (ovOf l1) (wpU P ops (fun _ => True) w kd R' (k + 1) os) (kd k)
    rcases h with ⟨hp, v, hy, hK⟩ | ⟨hp, v, hy, hK⟩ | ⟨hp, mk, t, cs, hA, hK⟩ | ⟨hp, z, T, cs, ds, l2, hu, hS, hK⟩
    · rw [hp]
      refine ⟨v, ?_, ih _ _ _ nd lo hR hK⟩
      rcases hy with ⟨y1, y2⟩ | y
      · exact .inl ⟨y1, fun W hW => y2 W hW (Lib.hid (h0.of_ov nd lo hW))⟩
      · exact .inr y
    · rw [hp]
      exact ⟨v, hy, ih _ _ _ nd lo hR hK⟩
    · rw [hp]
      refine ⟨mk, _, hA, fun g hg hf => ih _ _ ((g, t, cs) :: l1) ?_ ?_ hR (hK g)⟩
      · rw [List.map_cons, List.nodup_cons]
        refine ⟨fun hm => ?_, nd⟩
        obtain ⟨x, hx, he⟩ := List.mem_map.1 hm
        have := ovOf_mem nd hx
        rw [he, hf] at this
        cases this
      · intro x hx
        rcases List.mem_cons.1 hx with rfl | hx
        · exact Nat.le_trans h0.bel.size hg
        · exact lo x hx
    · rw [hp]
      have e := ovOf_upd hu nd
      refine ⟨z, _, _, undef, .inl trivial, ovOf_mem nd hu.mem, hS.v, ?_⟩
      rw [← e]
      refine ih _ _ l2 (by rw [hu.fst]; exact nd) ?_ hR hK
      exact hu.all (p := fun x => w0.heap.size ≤ x.1) (q := fun x => w0.heap.size ≤ x.1) nd (fun x _ _ hx => hx) (lo (z, T, cs) hu.mem) lo
/-- The first operations by wpKeep. -/
theorem wpL_pre (H : Hid (Hp w0 w l)) (l1 : List Oper) : ∀ (k : Nat) (a : Act), (∀ j, j < l1.length → kd (k + j) = .q) → wpKeep P ops w (fun a' => wpL P ops w0 w kd R (k + l1.length) rest a' l) l1 a → wpL P ops w0 w kd R k (l1 ++ rest) a l := by
  have hst : (ovOf l).still w := fun k b _ hu => by
    obtain ⟨x, hx, rfl, rfl⟩ := ovOf_mem_b H.out.nd hu
    exact (H.out.blk x hx).2
  induction l1 with
  | nil => intro k a _ h; exact h
  | cons o l1 ih =>
    intro k a hk h
    obtain ⟨v, hy, hK⟩ := yieldsK_of_wpKeep h
    refine .inl ⟨by simpa using hk 0 (by simp), v, ?_, ih (k + 1) _ (fun j hj => by rw [show k + 1 + j = k + (j + 1) by omega]; exact hk (j + 1) (by simp; omega)) (by rw [show k + 1 + l1.length = k + (o :: l1).length by simp only [List.length_cons]; omega]; exact hK)⟩
    rcases hy with ⟨y1, y2⟩ | y
    · exact .inl ⟨y1, fun W hW _ => y2 ⟨W, hW.below hst⟩⟩
    · exact .inr y
theorem wp_region_U {id : Nat} {ol : List Oper} (q N : Nat) (ks : List Kd) (H : Hid (Hp w0 w l)) (hm : P.follows .mixedOrders = true) (hB : Region.lexTailB .any ol.toArray N = true) (hE : edgesU .any ol.toArray (fun k => (List.replicate q Kd.q ++ ks).getD k .q) N = true) (hq : q ≤ N)
    (h : wpKeep P ol.toArray w (fun a' => wpL P ol.toArray w0 w (fun k => (List.replicate q Kd.q ++ ks).getD k .q) (fun a'' l' => ∀ W, Hid (Hp w0 W l') → wpList P ol.toArray Q (ol.drop N) a'' W) q ((ol.drop q).take (N - q)) a' l) (ol.take q) a) : (Code.region id ol.toArray true).wp P Q a w := by
  have hok : (ovOf l).ok w w := ⟨Below.refl 0 w, fun _ _ _ => rfl, fun k b hu => by
    obtain ⟨x, hx, rfl, rfl⟩ := ovOf_mem_b H.out.nd hu
    exact (H.out.blk x hx).2⟩
  have hN : N < ol.length := by
    simp only [Region.lexTailB, Bool.and_eq_true, decide_eq_true_eq] at hB
    simpa using hB.1.1.1.2
  refine wp_region_uni N _ (ovOf l) ⟨w.heap.size, fun g b hu => ?_⟩ hok (fun _ _ _ h _ => absurd trivial h) hm hB hE ?_
  · obtain ⟨x, hx, rfl, _⟩ := ovOf_mem_b H.out.nd hu
    exact H.out.lt hx
  have hs : ol.take N = ol.take q ++ (ol.drop q).take (N - q) := by
    rw [← List.take_append_drop q (ol.take N), List.take_take, Nat.min_eq_left hq, List.drop_take]
  have hql : (ol.take q).length = q := by simp; omega
  rw [hs]
  refine wpU_of (R := fun a'' l' => ∀ W, Hid (Hp w0 W l') → wpList P ol.toArray Q (ol.drop N) a'' W) H.out _ 0 a l H.out.nd (fun x hx => (H.out.blk x hx).1) (fun a'' l2 nd lo hR W hW => hR W (H.out.of_ov nd lo hW)) (wpL_pre H (ol.take q) 0 a (fun j hj => ?_) ?_)
  · rw [hql] at hj
    simp [List.getD_eq_getElem?_getD, List.getElem?_append, hj]
  · rw [hql, Nat.zero_add]
    exact h
end
end Go.Proofs.Ythepafendopfhaa

namespace Go.Proofs.Ythepafendopfhaa
open Go.RowKit
set_option linter.unusedVariables false

theorem Ov.still.put {U : Ov} {w : World} (h : U.still w) {g : Nat} (b : Obj) (hg : w.heap.size ≤ g) : (U.put g b).still w := fun k c hk hu => h k c hk (by rwa [Ov.put_ne _ _ (by omega)] at hu)
theorem Ov.still.of_put {U : Ov} {w : World} {g : Nat} {b : Obj} (h : (U.put g b).still w) (hf : U g = none) : U.still w := fun k c hk hu => h k c hk (by rw [Ov.put_ne _ _ (fun e => by subst e; rw [hf] at hu; cases hu)]; exact hu)
section
variable {P : Program} {ops : Array Oper} {md : Region.Mode} {w : World} {Z : Nat → Prop}
def YieldsR (P : Program) (ops : Array Oper) (w : World) (o : Oper) (v : Value) (a : Act) : Prop :=
  (Region.wanted o (yielded ops a.tmps) = true ∧ ∀ W, Below w.heap.size w W → keepsAt P o a W v) ∨ (Region.wanted o (yielded ops a.tmps) = false ∧ v = undef)
inductive KdR | q | p | a | s | r (v : Value)
def EffR (P : Program) (ops : Array Oper) (Z : Nat → Prop) (w : World) (o : Oper) (a : Act) (U : Ov) (K : Act → Ov → Prop) : KdR → Prop
  | .q => ∃ v, YieldsU P ops w U o v a ∧ K (a.put o.dst v) U
  | .p => ∃ v, YieldsP P ops Z w o v a ∧ K (a.put o.dst v) U
  | .a => ∃ mk b, AllocsAt P ops o a mk b ∧ ∀ g, w.heap.size ≤ g → U g = none → K (a.put o.dst (mk g)) (U.put g b)
  | .s => ∃ z b0 b1 v, (Z z ∨ w.heap.size ≤ z) ∧ U z = some b0 ∧ StoresV P ops Z w o a z b0 b1 v ∧ K (a.put o.dst v) (U.put z b1)
  | .r v => U.still w ∧ YieldsR P ops w o v a ∧ K (a.put o.dst v) U
/-- These two must not change places: the later one has to wait. -/
def needR : KdR → KdR → Bool
  | .q, .s => true
  | .s, .q => true
  | .s, .s => true
  | .a, .q => true
  | .a, .p => true
  | .a, .s => true
  | .r _, .s => true
  | .s, .r _ => true
  | _, _ => false
theorem EffR.mono {o : Oper} {a : Act} {U : Ov} {K K' : Act → Ov → Prop} {k : KdR} (hK : ∀ a U, K a U → K' a U) (h : EffR P ops Z w o a U K k) : EffR P ops Z w o a U K' k := by
  cases k with
  | q => obtain ⟨v, h1, h2⟩ := h; exact ⟨v, h1, hK _ _ h2⟩
  | p => obtain ⟨v, h1, h2⟩ := h; exact ⟨v, h1, hK _ _ h2⟩
  | a => obtain ⟨mk, b, h1, h2⟩ := h; exact ⟨mk, b, h1, fun g h3 h4 => hK _ _ (h2 g h3 h4)⟩
  | s => obtain ⟨z, b0, b1, v, h0, h1, h2, h3⟩ := h; exact ⟨z, b0, b1, v, h0, h1, h2, hK _ _ h3⟩
  | r v => obtain ⟨h0, h1, h2⟩ := h; exact ⟨h0, h1, hK _ _ h2⟩
section
variable {oi oj : Oper} {a : Act} {U : Ov} {K : Act → Ov → Prop}
/-- What may change places does. -/
theorem EffR.comm {ki kj : KdR} (hn : needR ki kj = false) (si : ∀ cs b, oi.op ≠ .select cs b) (sj : ∀ cs b, oj.op ≠ .select cs b) (hap : oi.apart ops oj = true) (hU : U.fin)
    (h : EffR P ops Z w oi a U (fun a1 U1 => EffR P ops Z w oj a1 U1 K kj) ki) : EffR P ops Z w oj a U (fun a2 U2 => EffR P ops Z w oi a2 U2 K ki) kj := by
  obtain ⟨h1, h2, h3⟩ := Oper.apart_spec hap
  have ej : ∀ u, execOp (a.put oi.dst u).eval oj = execOp a.eval oj := fun u => execOp_put oj sj a oi.dst u h1
  have wj : ∀ u, Region.wanted oj (yielded ops (a.put oi.dst u).tmps) = Region.wanted oj (yielded ops a.tmps) := fun u => wanted_put oj a oi.dst u h1
  have ei : ∀ u, execOp (a.put oj.dst u).eval oi = execOp a.eval oi := fun u => execOp_put oi si a oj.dst u h3
  have wi : ∀ u, Region.wanted oi (yielded ops (a.put oj.dst u).tmps) = Region.wanted oi (yielded ops a.tmps) := fun u => wanted_put oi a oj.dst u h3
  have qj : ∀ {V : Ov} {v u}, YieldsU P ops w V oj v (a.put oi.dst u) → YieldsU P ops w V oj v a := fun hy => by unfold YieldsU keepsAt at *; rw [ej, wj] at hy; exact hy
  have pj : ∀ {v u}, YieldsP P ops Z w oj v (a.put oi.dst u) → YieldsP P ops Z w oj v a := fun hy => by unfold YieldsP keepsAt at *; rw [ej, wj] at hy; exact hy
  have aj : ∀ {mk b u}, AllocsAt P ops oj (a.put oi.dst u) mk b → AllocsAt P ops oj a mk b := fun hy => by unfold AllocsAt at *; rw [ej, wj] at hy; exact hy
  have sj' : ∀ {z b0 b1 v u}, StoresV P ops Z w oj (a.put oi.dst u) z b0 b1 v → StoresV P ops Z w oj a z b0 b1 v := fun hy => by unfold StoresV at *; rw [ej, wj] at hy; exact hy
  have qi : ∀ {V : Ov} {v u}, YieldsU P ops w V oi v a → YieldsU P ops w V oi v (a.put oj.dst u) := fun hy => by unfold YieldsU keepsAt at *; rw [ei, wi]; exact hy
  have pi' : ∀ {v u}, YieldsP P ops Z w oi v a → YieldsP P ops Z w oi v (a.put oj.dst u) := fun hy => by unfold YieldsP keepsAt at *; rw [ei, wi]; exact hy
  have ai : ∀ {mk b u}, AllocsAt P ops oi a mk b → AllocsAt P ops oi (a.put oj.dst u) mk b := fun hy => by unfold AllocsAt at *; rw [ei, wi]; exact hy
  have si' : ∀ {z b0 b1 v u}, StoresV P ops Z w oi a z b0 b1 v → StoresV P ops Z w oi (a.put oj.dst u) z b0 b1 v := fun hy => by unfold StoresV at *; rw [ei, wi]; exact hy
  have pc : ∀ v u, (a.put oj.dst u).put oi.dst v = (a.put oi.dst v).put oj.dst u := fun v u => (Act.put_comm a v u h2).symm
  have less : ∀ {v g b}, w.heap.size ≤ g → U g = none → YieldsU P ops w U oi v a → YieldsU P ops w (U.put g b) oi v a := fun hg hf hy => by
    rcases hy with ⟨y1, y2⟩ | y
    · exact .inl ⟨y1, fun W hW => y2 W (hW.less hg hf)⟩
    · exact .inr y
  have rj : ∀ {v u}, YieldsR P ops w oj v (a.put oi.dst u) → YieldsR P ops w oj v a := fun hy => by unfold YieldsR keepsAt at *; rw [ej, wj] at hy; exact hy
  have ri : ∀ {v u}, YieldsR P ops w oi v a → YieldsR P ops w oi v (a.put oj.dst u) := fun hy => by unfold YieldsR keepsAt at *; rw [ei, wi]; exact hy
  cases ki <;> cases kj <;> simp only [needR] at hn
  all_goals first | exact absurd hn (by decide) | skip
  · obtain ⟨v, hv, u, hu, hK⟩ := h
    exact ⟨u, qj hu, v, qi hv, by rw [pc]; exact hK⟩
  · obtain ⟨v, hv, u, hu, hK⟩ := h
    exact ⟨u, pj hu, v, qi hv, by rw [pc]; exact hK⟩
  · obtain ⟨v, hv, mk, b, hA, hK⟩ := h
    exact ⟨mk, b, aj hA, fun g hg hf => ⟨v, qi (less hg hf hv), by rw [pc]; exact hK g hg hf⟩⟩
  · obtain ⟨v, hv, hs, hu, hK⟩ := h
    exact ⟨hs, rj hu, v, qi hv, by rw [pc]; exact hK⟩
  · obtain ⟨v, hv, u, hu, hK⟩ := h
    exact ⟨u, qj hu, v, pi' hv, by rw [pc]; exact hK⟩
  · obtain ⟨v, hv, u, hu, hK⟩ := h
    exact ⟨u, pj hu, v, pi' hv, by rw [pc]; exact hK⟩
  · obtain ⟨v, hv, mk, b, hA, hK⟩ := h
    exact ⟨mk, b, aj hA, fun g hg hf => ⟨v, pi' hv, by rw [pc]; exact hK g hg hf⟩⟩
  · obtain ⟨v, hv, z, b0, b1, x, hZ, hz, hS, hK⟩ := h
    exact ⟨z, b0, b1, x, hZ, hz, sj' hS, v, pi' hv, by rw [pc]; exact hK⟩
  · obtain ⟨v, hv, hs, hu, hK⟩ := h
    exact ⟨hs, rj hu, v, pi' hv, by rw [pc]; exact hK⟩
  · obtain ⟨mk, b, hA, H⟩ := h
    obtain ⟨g0, hg0, hf0⟩ := hU.new w.heap.size
    obtain ⟨mk', b', hA', _⟩ := H g0 hg0 hf0
    refine ⟨mk', b', aj hA', fun g' hg' hf' => ⟨mk, b, ai hA, fun g hg hf => ?_⟩⟩
    have hne : g ≠ g' := fun e => by subst e; rw [Ov.put_same] at hf; cases hf
    rw [Ov.put_ne _ _ hne] at hf
    obtain ⟨mk2, b2, hA2, hK⟩ := H g hg hf
    obtain ⟨rfl, rfl⟩ := AllocsAt.uniq w (aj hA') (aj hA2)
    rw [pc, Ov.put_comm U b' b (Ne.symm hne)]
    exact hK g' hg' (by rw [Ov.put_ne _ _ (Ne.symm hne)]; exact hf')
  · obtain ⟨mk, b, hA, H⟩ := h
    obtain ⟨g0, hg0, hf0⟩ := hU.new w.heap.size
    obtain ⟨hs, hu, _⟩ := H g0 hg0 hf0
    exact ⟨hs.of_put hf0, rj hu, mk, b, ai hA, fun g hg hf => by
      obtain ⟨_, _, hK⟩ := H g hg hf
      rw [pc]
      exact hK⟩
  · obtain ⟨z, b0, b1, x, hZ, hz, hS, u, hu, hK⟩ := h
    exact ⟨u, pj hu, z, b0, b1, x, hZ, hz, si' hS, by rw [pc]; exact hK⟩
  · obtain ⟨z, b0, b1, x, hZ, hz, hS, mk, b, hA, hK⟩ := h
    refine ⟨mk, b, aj hA, fun g hg hf => ?_⟩
    have hne : z ≠ g := fun e => by subst e; rw [hf] at hz; cases hz
    refine ⟨z, b0, b1, x, hZ, by rw [Ov.put_ne _ _ hne]; exact hz, si' hS, ?_⟩
    rw [pc, Ov.put_comm U b b1 (Ne.symm hne)]
    exact hK g hg (by rw [Ov.put_ne _ _ (Ne.symm hne)]; exact hf)
  · obtain ⟨hs, hv, u, hu, hK⟩ := h
    exact ⟨u, qj hu, hs, ri hv, by rw [pc]; exact hK⟩
  · obtain ⟨hs, hv, u, hu, hK⟩ := h
    exact ⟨u, pj hu, hs, ri hv, by rw [pc]; exact hK⟩
  · obtain ⟨hs, hv, mk, b, hA, hK⟩ := h
    exact ⟨mk, b, aj hA, fun g hg hf => ⟨hs.put b hg, ri hv, by rw [pc]; exact hK g hg hf⟩⟩
  · obtain ⟨hs, hv, hs2, hu, hK⟩ := h
    exact ⟨hs2, rj hu, hs, ri hv, by rw [pc]; exact hK⟩
end
theorem EffR.fin {o : Oper} {a : Act} {U : Ov} {K : Act → Ov → Prop} {k : KdR} (hU : U.fin) (h : EffR P ops Z w o a U K k) : EffR P ops Z w o a U (fun a' U' => U'.fin ∧ K a' U') k := by
  cases k with
  | q => obtain ⟨v, h1, h2⟩ := h; exact ⟨v, h1, hU, h2⟩
  | p => obtain ⟨v, h1, h2⟩ := h; exact ⟨v, h1, hU, h2⟩
  | a => obtain ⟨mk, b, h1, h2⟩ := h; exact ⟨mk, b, h1, fun g h3 h4 => ⟨hU.put _ _, h2 g h3 h4⟩⟩
  | s => obtain ⟨z, b0, b1, v, h0, h1, h2, h3⟩ := h; exact ⟨z, b0, b1, v, h0, h1, h2, hU.put _ _, h3⟩
  | r v => obtain ⟨h0, h1, h2⟩ := h; exact ⟨h0, h1, hU, h2⟩
def edgesR (md : Region.Mode) (ops : Array Oper) (kd : Nat → KdR) (N : Nat) : Bool := (List.range N).all fun j => (List.range j).all fun i => !needR (kd i) (kd j) || reachB md ops i N j
theorem edgesR_spec {kd : Nat → KdR} {N : Nat} (h : edgesR md ops kd N = true) {j i : Nat} (hj : j < N) (hi : i < j) (hn : needR (kd i) (kd j) = true) : reachB md ops i N j = true := by
  unfold edgesR at h
  have h1 := List.all_eq_true.1 (List.all_eq_true.1 h j (List.mem_range.2 hj)) i (List.mem_range.2 hi)
  rw [hn] at h1
  simpa using h1

/-! Every order -/
def HeadR (P : Program) (md : Region.Mode) (ops : Array Oper) (Z : Nat → Prop) (w : World) (kd : Nat → KdR) (N : Nat) (L : Array Bool → Act → Ov → Prop) : Nat → Array Bool → Act → Ov → Prop
  | 0, done, a, U => L done a U
  | f + 1, done, a, U => Region.ready md ops done ≠ [] ∧ ∀ i ∈ Region.ready md ops done, i < N ∧ ∃ o, ops[i]? = some o ∧ EffR P ops Z w o a U (HeadR P md ops Z w kd N L f (done.setIfInBounds i true)) (kd i)
variable {kd : Nat → KdR} {N : Nat}
theorem HeadR.any {L : Array Bool → Act → Ov → Prop} {g : Nat} {Q : Exit → Act → World → Prop} (hL : ∀ done a U W, Ov.ok U w W → L done a U → wpAny P md ops Q g done a W) (f : Nat) :
    ∀ (done : Array Bool) (a : Act) (U : Ov) (W : World), Ov.ok U w W → U.inv Z w → HeadR P md ops Z w kd N L f done a U → wpAny P md ops Q (f + g) done a W := by
  induction f with
  | zero => intro done a U W hw _ h; rw [Nat.zero_add]; exact hL _ _ _ _ hw h
  | succ f ih =>
    intro done a U W hw hI h
    rw [show f + 1 + g = (f + g) + 1 by omega]
    refine ⟨fun h0 => absurd h0 h.1, fun i hi => ?_⟩
    obtain ⟨_, o, ho, hE⟩ := h.2 i hi
    cases hkd : kd i with
    | q =>
      rw [hkd] at hE
      obtain ⟨v, hy, hK⟩ := hE
      refine wpOp_of_qOp (C := fun w' => Below W.heap.size W w') (K := fun a' => a' = a.put o.dst v) (Below.refl _ _) (fun a' w' hw' e => by subst e; exact ih _ _ _ _ (hw.go hw') hI hK) ?_
      unfold qOp
      simp only [ho]
      rcases hy with ⟨h1, h2⟩ | ⟨h1, rfl⟩
      · rw [if_pos h1]
        exact ⟨v, fun w' hw' => quietUpon_mono (fun w'' h' => hw'.trans (h'.mono hw'.size)) (h2 w' (hw.go hw')), rfl⟩
      · rw [if_neg (by rw [h1]; exact Bool.false_ne_true)]
    | p =>
      rw [hkd] at hE
      obtain ⟨v, hy, hK⟩ := hE
      refine wpOp_of_qOp (C := fun w' => Below W.heap.size W w') (K := fun a' => a' = a.put o.dst v) (Below.refl _ _) (fun a' w' hw' e => by subst e; exact ih _ _ _ _ (hw.go hw') hI hK) ?_
      unfold qOp
      simp only [ho]
      rcases hy with ⟨h1, h2⟩ | ⟨h1, rfl⟩
      · rw [if_pos h1]
        exact ⟨v, fun w' hw' => quietUpon_mono (fun w'' h' => hw'.trans (h'.mono hw'.size)) (h2 w' ((hw.st hI).go hw')), rfl⟩
      · rw [if_neg (by rw [h1]; exact Bool.false_ne_true)]
    | a =>
      rw [hkd] at hE
      obtain ⟨mk, b, ⟨h1, h2⟩, hK⟩ := hE
      unfold wpOp
      simp only [ho]
      rw [if_pos h1]
      refine .inl ?_
      unfold Oper.wp
      rw [h2, Oper.upon_value]
      exact ih _ _ _ _ (hw.alloc b) (hI.put b (.inr hw.all.size)) (hK _ hw.all.size hw.new)
    | s =>
      rw [hkd] at hE
      obtain ⟨z, b0, b1, v, hZ, hz0, ⟨h1, h2⟩, hK⟩ := hE
      have h3 := h2 W (hw.st hI) (hw.has z b0 hz0)
      unfold wpOp
      simp only [ho]
      rw [if_pos h1]
      refine .inl ?_
      unfold Oper.wp
      generalize (execOp a.eval o).run P W = r at h3
      cases r with
      | ok n W' =>
        cases n <;> simp only [upZ] at h3 <;> simp only [Oper.upon]
        case value u =>
          obtain ⟨e1, hz', hk, hB⟩ := h3
          rw [e1]
          exact ih _ _ _ _ (hw.store hz' hk hB) (hI.put b1 hZ) hK
        case skip =>
          obtain ⟨e1, hz', hk, hB⟩ := h3
          rw [← e1]
          exact ih _ _ _ _ (hw.store hz' hk hB) (hI.put b1 hZ) hK
        case enter f' args =>
          obtain ⟨e1, hc⟩ := h3
          rw [e1]
          exact hc.mono fun e w'' ⟨he, hz', hk, hB⟩ => by subst he; exact ih _ _ _ _ (hw.store hz' hk hB) (hI.put b1 hZ) hK
      | halt x W' => simp only [upZ] at h3
    | r v =>
      rw [hkd] at hE
      obtain ⟨hs, hy, hK⟩ := hE
      refine wpOp_of_qOp (C := fun w' => Below W.heap.size W w') (K := fun a' => a' = a.put o.dst v) (Below.refl _ _) (fun a' w' hw' e => by subst e; exact ih _ _ _ _ (hw.go hw') hI hK) ?_
      unfold qOp
      simp only [ho]
      rcases hy with ⟨h1, h2⟩ | ⟨h1, rfl⟩
      · rw [if_pos h1]
        exact ⟨v, fun w' hw' => quietUpon_mono (fun w'' h' => hw'.trans (h'.mono hw'.size)) (h2 w' ((hw.go hw').below hs)), rfl⟩
      · rw [if_neg (by rw [h1]; exact Bool.false_ne_true)]

theorem HeadR.first {L : Array Bool → Act → Ov → Prop} {i : Nat} {oi : Oper} (hi : ops[i]? = some oi) (hiN : i < N) (hsel : ∀ (j : Nat) (o : Oper) cs b, ops[j]? = some o → o.op ≠ .select cs b)
    (hE : edgesR md ops kd N = true) (hs : Region.sinkB md ops N = true) (hc : Region.chainB md ops N = true) (hn : N < ops.size) (hL : ∀ done a U, L done a U → ∀ j ∈ Region.ready md ops done, N ≤ j) (f : Nat) :
    ∀ (done : Array Bool) (a : Act) (U : Ov), HeadInv md ops N done → U.fin → (∀ j, j < i → done.getD j true = true) →
      (∀ j oj, ops[j]? = some oj → j ≠ i → done.getD j true = false → (∀ e ∈ oj.after, Region.binds md e = true → e.on ≠ i) → oi.apart ops oj = true) →
      i ∈ Region.ready md ops done → EffR P ops Z w oi a U (HeadR P md ops Z w kd N L f (done.setIfInBounds i true)) (kd i) → HeadR P md ops Z w kd N L (f + 1) done a U := by
  have low : ∀ done, HeadInv md ops N done → i ∈ Region.ready md ops done → ∀ j ∈ Region.ready md ops done, j < N := fun done inv hr j hj => by
    rcases Nat.lt_or_ge j N with h | h
    · exact h
    · exact absurd hj (tail_waits hs hc hn inv _ i rfl hiN (mem_ready.1 hr).1 j h)
  have some_one : ∀ {o : Oper} {a : Act} {U : Ov} {K : Act → Ov → Prop} {k : KdR}, U.fin → EffR P ops Z w o a U K k → ∃ a' U', K a' U' := by
    intro o a U K k hU h
    cases k with
    | q => obtain ⟨v, _, h2⟩ := h; exact ⟨_, _, h2⟩
    | p => obtain ⟨v, _, h2⟩ := h; exact ⟨_, _, h2⟩
    | a => obtain ⟨mk, b, _, h2⟩ := h; obtain ⟨g, h3, h4⟩ := hU.new w.heap.size; exact ⟨_, _, h2 g h3 h4⟩
    | s => obtain ⟨z, b0, b1, v, _, _, _, h2⟩ := h; exact ⟨_, _, h2⟩
    | r v => obtain ⟨_, _, h2⟩ := h; exact ⟨_, _, h2⟩
  induction f with
  | zero =>
    intro done a U inv hU _ _ hr H
    refine ⟨fun h => (by rw [h] at hr; cases hr), fun j hj => ⟨low done inv hr j hj, ?_⟩⟩
    rcases Nat.decEq j i with hji | hji
    · obtain ⟨a', U', hl⟩ := some_one hU H
      have := hL _ _ _ hl j (ready_mono hj hji)
      have := low done inv hr j hj
      omega
    · subst hji; exact ⟨oi, hi, H⟩
  | succ f ih =>
    intro done a U inv hU hd hfree hr H
    refine ⟨fun h => (by rw [h] at hr; cases hr), fun j hj => ⟨low done inv hr j hj, ?_⟩⟩
    rcases Nat.decEq j i with hji | hji
    · obtain ⟨hjun, oj, hoj, hall⟩ := mem_ready.1 hj
      have hun := (mem_ready.1 hr).1
      have hnot : ∀ e ∈ oj.after, Region.binds md e = true → e.on ≠ i := fun e he hb heq => by
        have h1 := hall e he hb
        rw [heq, getD_both hun] at h1
        cases h1
      have hap := hfree j oj hoj hji hjun hnot
      have back : ∀ k, (done.setIfInBounds j true).getD k true = false → done.getD k true = false := fun k hk => by
        rcases Nat.decEq j k with hjk | hjk
        · rw [getD_set_ne true hjk] at hk; exact hk
        · subst hjk; exact hjun
      have hij : i < j := by
        rcases Nat.lt_or_ge i j with h | h
        · exact h
        · have := hd j (by omega)
          rw [hjun] at this
          cases this
      have hjN := low done inv hr j hj
      have hne : needR (kd i) (kd j) = false := by
        cases hq : needR (kd i) (kd j) with
        | false => rfl
        | true => exact absurd hj (reach_waits inv (edgesR_spec hE hjN hij hq) hun)
      refine ⟨oj, hoj, ?_⟩
      have H2 : EffR P ops Z w oi a U (fun a1 U1 => EffR P ops Z w oj a1 U1 (HeadR P md ops Z w kd N L f ((done.setIfInBounds j true).setIfInBounds i true)) (kd j)) (kd i) := H.mono fun a1 U1 h => by
        obtain ⟨_, oj', hoj', hh⟩ := h.2 j (ready_mono hj hji)
        obtain rfl : oj = oj' := Option.some.inj (hoj.symm.trans hoj')
        rw [Array.setIfInBounds_comm _ _ hji]
        exact hh
      have H3 := EffR.fin hU (EffR.comm hne (fun cs b => hsel i oi cs b hi) (fun cs b => hsel j oj cs b hoj) hap hU H2)
      refine H3.mono fun a2 U2 ⟨hf2, h2⟩ => ih _ a2 U2 (inv.set hj hjN) hf2 (fun k hk => by rw [getD_set_ne true (by omega)]; exact hd k hk) (fun k ok hk hki hun' hno => hfree k ok hk hki (back k hun') hno) (ready_mono hr (Ne.symm hji)) h2
    · subst hji; exact ⟨oi, hi, H⟩

/-- The walk in the text's order. -/
def wpUR (P : Program) (ops : Array Oper) (Z : Nat → Prop) (w : World) (kd : Nat → KdR) (R : Act → Ov → Prop) : Nat → List Oper → Act → Ov → Prop
  | _, [], a, U => R a U
  | k, o :: os, a, U => EffR P ops Z w o a U (wpUR P ops Z w kd R (k + 1) os) (kd k)
theorem HeadR.lex {g : Nat} {R : Act → Ov → Prop} (hsel : Region.noSelect ops = true) (hE : edgesR md ops kd N = true) (hs : Region.sinkB md ops N = true) (hc : Region.chainB md ops N = true) (hn : N < ops.size) (l : List Oper) :
    ∀ (k : Nat) (done : Array Bool) (a : Act) (U : Ov), (∀ j, j < l.length → l[j]? = ops[k + j]?) → k + l.length = N → HeadInv md ops N done → (∀ j, j < k → done.getD j true = true) → U.fin →
      Region.lexHead md ops g l.length k done = true → wpUR P ops Z w kd R k l a U →
      HeadR P md ops Z w kd N (fun done' a' U' => Region.seqB md ops g N done' = true ∧ R a' U') l.length done a U := by
  induction l with
  | nil =>
    intro k done a U _ hk _ _ _ hB h
    obtain rfl : k = N := by simpa using hk
    exact ⟨by simpa [Region.lexHead] using hB, h⟩
  | cons o l ih =>
    intro k done a U hl hk inv hd hU hB h
    have h0 : ops[k]? = some o := by simpa using (hl 0 (by simp)).symm
    simp only [List.length_cons] at hk hB ⊢
    rw [Region.lexHead, Bool.and_eq_true, Bool.and_eq_true] at hB
    obtain ⟨⟨hr, hf⟩, hB'⟩ := hB
    have hr' : k ∈ Region.ready md ops done := by simpa using hr
    have hd' : ∀ j, j < k + 1 → (done.setIfInBounds k true).getD j true = true := fun j hj => by
      rcases Nat.decEq k j with hkj | hkj
      · rw [getD_set_ne true hkj]; exact hd j (by omega)
      · subst hkj
        have hks : k < done.size := by rw [inv.size]; omega
        simp [hks]
    refine HeadR.first h0 (by omega) (Region.noSelect_spec hsel) hE hs hc hn (fun done' a' U' hL => seqB_ready hL.1) l.length done a U inv hU hd (Region.free_spec h0 hf) hr' ?_
    exact (EffR.fin hU h).mono fun a' U' ⟨hf', h'⟩ => ih (k + 1) _ a' U' (fun j hj => by have := hl (j + 1) (by simp; omega); simpa [Nat.add_assoc, Nat.add_comm 1 j] using this) (by omega) (inv.set hr' (by omega)) hd' hf' hB' h'

/-- **A drawn region**, walked in the text's order. -/
theorem wp_region_uniR {id : Nat} {Q : Exit → Act → World → Prop} {a : Act} {l : List Oper} (N : Nat) (kd : Nat → KdR) (U : Ov) (hU : U.fin) (hok : U.ok w w) (hI : U.inv Z w) (hm : P.follows .mixedOrders = true) (hB : Region.lexTailB .any l.toArray N = true) (hE : edgesR .any l.toArray kd N = true)
    (h : wpUR P l.toArray Z w kd (fun a' U' => ∀ W, U'.ok w W → wpList P l.toArray Q (l.drop N) a' W) 0 (l.take N) a U) : (Code.region id l.toArray true).wp P Q a w := by
  simp only [Region.lexTailB, Bool.and_eq_true, decide_eq_true_eq] at hB
  obtain ⟨⟨⟨⟨hsel, hn⟩, hs⟩, hc⟩, hlex⟩ := hB
  have hn' : N < l.length := by simpa using hn
  have htl : (l.take N).length = N := by simp; omega
  have hdl : (l.drop N).length = l.toArray.size - N := by simp
  have start : HeadInv .any l.toArray N (Array.replicate l.toArray.size false) := by
    constructor
    · simp
    · intro j oj _ hl; rw [getD_replicate_false] at hl; cases hl
    · intro t _ ht; exact getD_in (by simpa using ht) (getD_replicate_false _ _)
  have H := HeadR.lex (P := P) (w := w) (md := .any) (kd := kd) (N := N) (g := l.toArray.size - N) (R := fun a' U' => ∀ W, U'.ok w W → wpList P l.toArray Q (l.drop N) a' W) hsel hE hs hc hn (l.take N) 0 _ a U
    (fun j hj => by rw [htl] at hj; simp [hj]) (by rw [htl]; omega) start (fun j hj => by omega) hU (by rw [htl]; exact hlex) h
  rw [htl] at H
  refine wp_region_any hm ?_
  have := HeadR.any (Q := Q) (g := l.toArray.size - N) (fun done a' U' W hW hL => by
    have := wpAny_of_seq (md := .any) (Q' := Q) (l.drop N) N done a' W (fun j => by simp [List.getElem?_drop]) (by rw [hdl]; exact hL.1) (hL.2 W hW)
    rwa [hdl] at this) _ _ _ _ _ (show Ov.ok U w { w with drawn := w.drawn + 1 } from ⟨(Below.refl 0 w).drew, hok.keep, hok.has⟩) hI H
  rwa [show N + (l.toArray.size - N) = l.toArray.size by omega] at this
end

section
variable {P : Program} {ops : Array Oper} {rest : List Oper} {o : Oper} {a : Act} {w0 w : World} {l l' : Ents} {Q : Exit → Act → World → Prop} {kd : Nat → KdR} {k : Nat} {R : Act → Ents → Prop} {st : Bool}
/-- The walk over the list of blocks; st: nothing has been stored yet. -/
def wpR (P : Program) (ops : Array Oper) (w0 w : World) (kd : Nat → KdR) (R : Act → Ents → Prop) : Nat → List Oper → Act → Ents → Bool → Prop
  | _, [], a, l, _ => R a l
  | k, o :: os, a, l, st =>
    (kd k = .q ∧ ∃ v, YieldsL P ops w0 w l o v a ∧ wpR P ops w0 w kd R (k + 1) os (a.put o.dst v) l st) ∨
    (kd k = .p ∧ ∃ v, YieldsP P ops (fun _ => True) w o v a ∧ wpR P ops w0 w kd R (k + 1) os (a.put o.dst v) l st) ∨
    (kd k = .a ∧ ∃ mk t cs, AllocsAt P ops o a mk (.cells cs.toArray t (0, 0)) ∧ ∀ g, wpR P ops w0 w kd R (k + 1) os (a.put o.dst (mk g)) ((g, t, cs) :: l) st) ∨
    (kd k = .s ∧ ∃ z T cs ds l', Upd l z T cs ds l' ∧ StoresZ P ops o a z (.cells cs.toArray T (0, 0)) (.cells ds.toArray T (0, 0)) ∧ wpR P ops w0 w kd R (k + 1) os (a.put o.dst undef) l' false) ∨
    (∃ v, kd k = .r v ∧ st = true ∧ YieldsR P ops w o v a ∧ wpR P ops w0 w kd R (k + 1) os (a.put o.dst v) l st)
theorem wpR_nil (h : R a l) : wpR P ops w0 w kd R k [] a l st := h
theorem wpR_P {v : Value} (hp : kd k = .p) (hg : Region.wanted o (yielded ops a.tmps) = true) (hr : ∀ W, (execOp a.eval o).run P W = .ok (.value v) W) (h : wpR P ops w0 w kd R (k + 1) rest (a.put o.dst v) l st) : wpR P ops w0 w kd R k (o :: rest) a l st :=
  .inr (.inl ⟨hp, v, .inl ⟨hg, fun W _ => by unfold keepsAt; rw [hr W]; exact ⟨rfl, rfl⟩⟩, h⟩)
theorem wpR_C {v : Value} (hp : kd k = .q) (hg : Region.wanted o (yielded ops a.tmps) = true) (hr : ∀ W, Hid (Hp w0 W l) → keepsAt P o a W v) (h : wpR P ops w0 w kd R (k + 1) rest (a.put o.dst v) l st) : wpR P ops w0 w kd R k (o :: rest) a l st :=
  .inl ⟨hp, v, .inl ⟨hg, fun W _ hW => hr W hW⟩, h⟩
theorem wpR_load {t T : TypeId} {p : Operand} {b j n : Nat} {cs ds : List Value} (hk : kd k = .q) (ho : o.op = .load t p) (hg : Region.wanted o (yielded ops a.tmps) = true) (hT : RowT P t n) (hp : a.eval p = .pointer (some ⟨b, j, none⟩))
    (hm : (b, T, cs) ∈ l) (hx : (cs.drop j).take n = ds) (hl : ds.length = n) (h : wpR P ops w0 w kd R (k + 1) rest (a.put o.dst (.agg ds.toArray)) l st) : wpR P ops w0 w kd R k (o :: rest) a l st :=
  wpR_C hk hg (fun W hW => by
    have hr := run_loadB (P := P) (t := t) (k := j) (hW.out.get hm) hT (by simpa using hx) hl
    unfold keepsAt execOp
    simp only [ho, hp, hr, Sem.run_bind, Sem.run_pure, Result.andThen_ok]
    exact ⟨rfl, rfl⟩) h
theorem wpR_A {t : TypeId} {cs : List Value} (hp : kd k = .a) (hA : Allocs P ops o (.cells cs.toArray t)) (h : ∀ g, wpR P ops w0 w kd R (k + 1) rest (a.put o.dst (.pointer (some ⟨g, 0, none⟩))) ((g, t, cs) :: l) st) : wpR P ops w0 w kd R k (o :: rest) a l st :=
  .inr (.inr (.inl ⟨hp, fun g => .pointer (some ⟨g, 0, none⟩), t, cs, ⟨(hA a w).1, fun W => (hA a W).2⟩, h⟩))
theorem wpR_V (t : TypeId) (cs : List Value) (n : Nat) (hp : kd k = .a) (hg : o.guard = none) (hr : ∀ W : World, (execOp a.eval o).run P W = .ok (.value (.slice (some ⟨W.heap.size, 0, none⟩) n n)) (W.alloc (.cells cs.toArray t)))
    (h : ∀ g, wpR P ops w0 w kd R (k + 1) rest (a.put o.dst (.slice (some ⟨g, 0, none⟩) n n)) ((g, t, cs) :: l) st) : wpR P ops w0 w kd R k (o :: rest) a l st :=
  .inr (.inr (.inl ⟨hp, fun g => .slice (some ⟨g, 0, none⟩) n n, t, cs, ⟨by simp [Region.wanted, hg], hr⟩, h⟩))
theorem wpR_S {t T : TypeId} {p x : Operand} {z off c : Nat} {cs vs ds : List Value} (hP : kd k = .s) (ho : o.op = .store t p x) (hg : o.guard = none) (hd : o.dst = none) (hT : RowT P t c) (hp : a.eval p = .pointer (some ⟨z, off, none⟩)) (hx : a.eval x = .agg vs.toArray)
    (hu : Upd l z T cs ds l') (hl : vs.length = c) (hc : cs.take off ++ vs ++ cs.drop (off + c) = ds) (hk : off + c ≤ cs.length) (h2 : vs.all (·.oneCell') = true) (h : wpR P ops w0 w kd R (k + 1) rest a l' false) : wpR P ops w0 w kd R k (o :: rest) a l st :=
  .inr (.inr (.inr (.inl ⟨hP, z, T, cs, ds, l', hu, storesZ_part ho hg hT hp hx hl hc hk h2, by rw [hd]; exact h⟩)))
theorem wpR_r {v : Value} (hp : kd k = .r v) (hg : Region.wanted o (yielded ops a.tmps) = true) (hr : ∀ s : Ext w, keepsAt P o a s.to v) (h : wpR P ops w0 w kd R (k + 1) rest (a.put o.dst v) l true) : wpR P ops w0 w kd R k (o :: rest) a l true :=
  .inr (.inr (.inr (.inr ⟨v, hp, rfl, .inl ⟨hg, fun W hW => hr ⟨W, hW⟩⟩, h⟩)))
theorem wpR_rload {l0 : Ents} (H0 : Hid (Hp w0 w l0)) {t T : TypeId} {p : Operand} {b j n : Nat} {cs ds : List Value} (hk : kd k = .r (.agg ds.toArray)) (ho : o.op = .load t p) (hg : Region.wanted o (yielded ops a.tmps) = true) (hT : RowT P t n) (hp : a.eval p = .pointer (some ⟨b, j, none⟩))
    (hm : (b, T, cs) ∈ l0) (hx : (cs.drop j).take n = ds) (hl : ds.length = n) (h : wpR P ops w0 w kd R (k + 1) rest (a.put o.dst (.agg ds.toArray)) l true) : wpR P ops w0 w kd R k (o :: rest) a l true :=
  wpR_r hk hg (fun s => by
    have hb : Blk s.to b T cs.toArray := (H0.out.get hm).out.below s.h (H0.out.get hm).out.lt
    have hr := run_loadB (P := P) (t := t) (k := j) (Lib.hid hb) hT (by simpa using hx) hl
    unfold keepsAt execOp
    simp only [ho, hp, hr, Sem.run_bind, Sem.run_pure, Result.andThen_ok]
    exact ⟨rfl, rfl⟩) h
theorem wpUR_of (h0 : Hp w0 w l) {R' : Act → Ov → Prop} (os : List Oper) : ∀ (k : Nat) (a : Act) (l1 : Ents) (st : Bool), (l1.map (·.1)).Nodup → (∀ x ∈ l1, w0.heap.size ≤ x.1) → (st = true → (ovOf l1).still w) →
    (∀ a' l2, (l2.map (·.1)).Nodup → (∀ x ∈ l2, w0.heap.size ≤ x.1) → R a' l2 → R' a' (ovOf l2)) → wpR P ops w0 w kd R k os a l1 st → wpUR P ops (fun _ => True) w kd R' k os a (ovOf l1) := by
  induction os with
  | nil => intro k a l1 st nd lo hst hR h; exact hR a l1 nd lo h
  | cons o os ih =>
    intro k a l1 st nd lo hst hR h
    show EffR P ops (fun _ => True) w o a (ovOf l1) (wpUR P ops (fun _ => True) w kd R' (k + 1) os) (kd k)
    rcases h with ⟨hp, v, hy, hK⟩ | ⟨hp, v, hy, hK⟩ | ⟨hp, mk, t, cs, hA, hK⟩ | ⟨hp, z, T, cs, ds, l2, hu, hS, hK⟩ | ⟨v, hp, hs, hy, hK⟩
    · rw [hp]
      refine ⟨v, ?_, ih _ _ _ _ nd lo hst hR hK⟩
      rcases hy with ⟨y1, y2⟩ | y
      · exact .inl ⟨y1, fun W hW => y2 W hW (Lib.hid (h0.of_ov nd lo hW))⟩
      · exact .inr y
    · rw [hp]
      exact ⟨v, hy, ih _ _ _ _ nd lo hst hR hK⟩
    · rw [hp]
      refine ⟨mk, _, hA, fun g hg hf => ih _ _ ((g, t, cs) :: l1) _ ?_ ?_ (fun e => (hst e).put _ hg) hR (hK g)⟩
      · rw [List.map_cons, List.nodup_cons]
        refine ⟨fun hm => ?_, nd⟩
        obtain ⟨x, hx, he⟩ := List.mem_map.1 hm
        have := ovOf_mem nd hx
        rw [he, hf] at this
        cases this
      · intro x hx
        rcases List.mem_cons.1 hx with rfl | hx
        · exact Nat.le_trans h0.bel.size hg
        · exact lo x hx
    · rw [hp]
      have e := ovOf_upd hu nd
      refine ⟨z, _, _, undef, .inl trivial, ovOf_mem nd hu.mem, hS.v, ?_⟩
      rw [← e]
      refine ih _ _ l2 _ (by rw [hu.fst]; exact nd) ?_ (fun e => by cases e) hR hK
      exact hu.all (p := fun x => w0.heap.size ≤ x.1) (q := fun x => w0.heap.size ≤ x.1) nd (fun x _ _ hx => hx) (lo (z, T, cs) hu.mem) lo
    · rw [hp]
      exact ⟨hst hs, hy, ih _ _ _ _ nd lo hst hR hK⟩
theorem wpR_pre (H : Hid (Hp w0 w l)) (l1 : List Oper) : ∀ (k : Nat) (a : Act), (∀ j, j < l1.length → kd (k + j) = .q) → wpKeep P ops w (fun a' => wpR P ops w0 w kd R (k + l1.length) rest a' l true) l1 a → wpR P ops w0 w kd R k (l1 ++ rest) a l true := by
  have hst : (ovOf l).still w := fun k b _ hu => by
    obtain ⟨x, hx, rfl, rfl⟩ := ovOf_mem_b H.out.nd hu
    exact (H.out.blk x hx).2
  induction l1 with
  | nil => intro k a _ h; exact h
  | cons o l1 ih =>
    intro k a hk h
    obtain ⟨v, hy, hK⟩ := yieldsK_of_wpKeep h
    refine .inl ⟨by simpa using hk 0 (by simp), v, ?_, ih (k + 1) _ (fun j hj => by rw [show k + 1 + j = k + (j + 1) by omega]; exact hk (j + 1) (by simp; omega)) (by rw [show k + 1 + l1.length = k + (o :: l1).length by simp only [List.length_cons]; omega]; exact hK)⟩
    rcases hy with ⟨y1, y2⟩ | y
    · exact .inl ⟨y1, fun W hW _ => y2 ⟨W, hW.below hst⟩⟩
    · exact .inr y
theorem wp_region_R {id : Nat} {ol : List Oper} (q N : Nat) (ks : List KdR) (H : Hid (Hp w0 w l)) (hm : P.follows .mixedOrders = true) (hB : Region.lexTailB .any ol.toArray N = true) (hE : edgesR .any ol.toArray (fun k => (List.replicate q KdR.q ++ ks).getD k .q) N = true) (hq : q ≤ N)
    (h : wpKeep P ol.toArray w (fun a' => wpR P ol.toArray w0 w (fun k => (List.replicate q KdR.q ++ ks).getD k .q) (fun a'' l' => ∀ W, Hid (Hp w0 W l') → wpList P ol.toArray Q (ol.drop N) a'' W) q ((ol.drop q).take (N - q)) a' l true) (ol.take q) a) : (Code.region id ol.toArray true).wp P Q a w := by
  have hok : (ovOf l).ok w w := ⟨Below.refl 0 w, fun _ _ _ => rfl, fun k b hu => by
    obtain ⟨x, hx, rfl, rfl⟩ := ovOf_mem_b H.out.nd hu
    exact (H.out.blk x hx).2⟩
  have hst : (ovOf l).still w := fun k b _ hu => by
    obtain ⟨x, hx, rfl, rfl⟩ := ovOf_mem_b H.out.nd hu
    exact (H.out.blk x hx).2
  refine wp_region_uniR N _ (ovOf l) ⟨w.heap.size, fun g b hu => ?_⟩ hok (fun _ _ _ h _ => absurd trivial h) hm hB hE ?_
  · obtain ⟨x, hx, rfl, _⟩ := ovOf_mem_b H.out.nd hu
    exact H.out.lt hx
  have hs : ol.take N = ol.take q ++ (ol.drop q).take (N - q) := by
    rw [← List.take_append_drop q (ol.take N), List.take_take, Nat.min_eq_left hq, List.drop_take]
  have hql : (ol.take q).length = q := by
    have hN : N < ol.length := by
      simp only [Region.lexTailB, Bool.and_eq_true, decide_eq_true_eq] at hB
      simpa using hB.1.1.1.2
    simp; omega
  rw [hs]
  refine wpUR_of (R := fun a'' l' => ∀ W, Hid (Hp w0 W l') → wpList P ol.toArray Q (ol.drop N) a'' W) H.out _ 0 a l true H.out.nd (fun x hx => (H.out.blk x hx).1) (fun _ => hst) (fun a'' l2 nd lo hR W hW => hR W (H.out.of_ov nd lo hW)) (wpR_pre H (ol.take q) 0 a (fun j hj => ?_) ?_)
  · rw [hql] at hj
    simp [List.getD_eq_getElem?_getD, List.getElem?_append, hj]
  · rw [hql, Nat.zero_add]
    exact h
end
end Go.Proofs.Ythepafendopfhaa

namespace Go.Proofs.Ythepafendopfhaa
open Go.RowKit
set_option linter.unusedVariables false

theorem wanted_some {o : Oper} {y : Nat → Option Bool} {i : Nat} {b : Bool} (h : o.guard = some (i, b)) (hy : y i = some b) : Region.wanted o y = true := by simp [Region.wanted, h, hy]
theorem wpK_skip {P : Program} {ops : Array Oper} {w : World} {R : Act → Prop} {a : Act} {o : Oper} {rest : List Oper} {i : Nat} {b : Bool} (h : o.guard = some (i, b)) (hy : yielded ops a.tmps i = some (!b)) (hK : wpKeep P ops w R rest (a.put o.dst undef)) : wpKeep P ops w R (o :: rest) a := by
  unfold wpKeep
  rw [if_neg (by simp [Region.wanted, h, hy])]
  exact hK
/-- What is known of the call's own blocks. -/
abbrev Ow := Nat → Option (TypeId × List Value)
def Ow.put (U : Ow) (g : Nat) (b : TypeId × List Value) : Ow := fun k => if k = g then some b else U k
theorem Ow.put_same (U : Ow) (g : Nat) (b : TypeId × List Value) : U.put g b g = some b := if_pos rfl
theorem Ow.put_ne (U : Ow) {g k : Nat} (b : TypeId × List Value) (h : k ≠ g) : U.put g b k = U k := if_neg h
theorem Ow.put_comm (U : Ow) {g h : Nat} (b c : TypeId × List Value) (hne : g ≠ h) : (U.put g b).put h c = (U.put h c).put g b := by
  funext k
  by_cases h1 : k = h
  · subst h1; rw [Ow.put_same, Ow.put_ne _ _ (Ne.symm hne), Ow.put_same]
  · rw [Ow.put_ne _ _ h1]
    by_cases h2 : k = g
    · subst h2; rw [Ow.put_same, Ow.put_same]
    · rw [Ow.put_ne _ _ h2, Ow.put_ne _ _ h2, Ow.put_ne _ _ h1]
def Ow.fin (U : Ow) : Prop := ∃ x, ∀ g b, U g = some b → g < x
theorem Ow.fin.put {U : Ow} (h : U.fin) (g : Nat) (b : TypeId × List Value) : (U.put g b).fin := by
  obtain ⟨x, hx⟩ := h
  refine ⟨max x (g + 1), fun k c hu => ?_⟩
  by_cases hk : k = g
  · omega
  · rw [Ow.put_ne _ _ hk] at hu
    have := hx _ _ hu
    omega
theorem Ow.fin.new {U : Ow} (h : U.fin) (n : Nat) : ∃ g, n ≤ g ∧ U g = none := by
  obtain ⟨x, hx⟩ := h
  refine ⟨max x n, Nat.le_max_right _ _, ?_⟩
  cases hu : U (max x n) with
  | none => rfl
  | some c => have := hx _ _ hu; omega
structure HU (w0 W : World) (U : Ow) : Prop where
  blk : ∀ k x, U k = some x → w0.heap.size ≤ k ∧ Blk W k x.1 x.2.toArray
  bel : Below w0.heap.size w0 W
  t0 : Tb w0
theorem HU.go {w0 W W' : World} {U : Ow} (h : HU w0 W U) (hb : Below W.heap.size W W') : HU w0 W' U :=
  ⟨fun k x hu => ⟨(h.blk k x hu).1, (h.blk k x hu).2.below hb (h.blk k x hu).2.lt⟩, h.bel.trans (hb.mono h.bel.size), h.t0⟩
theorem HU.new {w0 W : World} {U : Ow} (h : HU w0 W U) : U W.heap.size = none := by
  cases hu : U W.heap.size with
  | none => rfl
  | some b =>
    have := (h.blk _ _ hu).2.lt
    omega
theorem HU.alloc {w0 W : World} {U : Ow} (h : HU w0 W U) (t : TypeId) (cs : List Value) : HU w0 (W.alloc (.cells cs.toArray t)) (U.put W.heap.size (t, cs)) := by
  have hg := h.go ((Below.refl W.heap.size W).alloc (Nat.le_refl _) (.cells cs.toArray t))
  refine ⟨fun k x hu => ?_, hg.bel, h.t0⟩
  by_cases hk2 : k = W.heap.size
  · subst hk2
    rw [Ow.put_same] at hu
    injection hu with hu
    subst hu
    exact ⟨h.bel.size, Blk.new W t cs.toArray⟩
  · rw [Ow.put_ne _ _ hk2] at hu; exact hg.blk k x hu
def Ow.le (U0 U : Ow) : Prop := ∀ k x, U0 k = some x → U k = some x
theorem HU.less {w0 W : World} {U U0 : Ow} (h : HU w0 W U) (hl : U0.le U) : HU w0 W U0 := ⟨fun k x hu => h.blk k x (hl k x hu), h.bel, h.t0⟩
theorem Ow.le.put {U0 U : Ow} (h : U0.le U) {z : Nat} (b : TypeId × List Value) (hz : U0 z = none) : U0.le (U.put z b) := fun k x hu => by
  have : k ≠ z := fun e => by subst e; rw [hz] at hu; cases hu
  rw [Ow.put_ne _ _ this]
  exact h k x hu
theorem Ow.le.none {U0 U : Ow} (h : U0.le U) {z : Nat} (hz : U z = none) : U0 z = none := by
  cases hu : U0 z with
  | none => rfl
  | some x => rw [h z x hu] at hz; cases hz

def upH (P : Program) (w0 : World) (U : Ow) (W : World) (v : Value) : Result Next → Prop
  | .ok (.value u) W' => u = v ∧ HU w0 W' U
  | .ok .skip W' => v = undef ∧ HU w0 W' U
  | .ok (.enter f args) W' => W' = W ∧ Calls P f args W (fun e W'' => e = .returned v ∧ HU w0 W'' U)
  | _ => False

section
variable {P : Program} {ops : Array Oper} {md : Region.Mode} {w0 : World} {U0 : Ow}
def YieldsW (P : Program) (ops : Array Oper) (w0 : World) (U0 : Ow) (o : Oper) (v : Value) (a : Act) : Prop :=
  (Region.wanted o (yielded ops a.tmps) = true ∧ ∀ W, HU w0 W U0 → keepsAt P o a W v) ∨ (Region.wanted o (yielded ops a.tmps) = false ∧ v = undef)
def StoresW (P : Program) (ops : Array Oper) (w0 : World) (U0 : Ow) (o : Oper) (a : Act) (z : Nat) (b0 b1 : TypeId × List Value) (v : Value) : Prop :=
  Region.wanted o (yielded ops a.tmps) = true ∧ ∀ U W, HU w0 W U → U.fin → U0.le U → U z = some b0 → upH P w0 (U.put z b1) W v ((execOp a.eval o).run P W)
def EffW (P : Program) (ops : Array Oper) (w0 : World) (U0 : Ow) (o : Oper) (a : Act) (U : Ow) (K : Act → Ow → Prop) : Kd → Prop
  | .q => False
  | .p => ∃ v, YieldsW P ops w0 U0 o v a ∧ K (a.put o.dst v) U
  | .a => ∃ mk t cs, AllocsAt P ops o a mk (.cells cs.toArray t) ∧ ∀ g, w0.heap.size ≤ g → U g = none → K (a.put o.dst (mk g)) (U.put g (t, cs))
  | .s => ∃ z b0 b1 v, U0 z = none ∧ U z = some b0 ∧ StoresW P ops w0 U0 o a z b0 b1 v ∧ K (a.put o.dst v) (U.put z b1)
theorem EffW.mono {o : Oper} {a : Act} {U : Ow} {K K' : Act → Ow → Prop} {k : Kd} (hK : ∀ a U, K a U → K' a U) (h : EffW P ops w0 U0 o a U K k) : EffW P ops w0 U0 o a U K' k := by
  cases k with
  | q => exact h.elim
  | p => obtain ⟨v, h1, h2⟩ := h; exact ⟨v, h1, hK _ _ h2⟩
  | a => obtain ⟨mk, t, cs, h1, h2⟩ := h; exact ⟨mk, t, cs, h1, fun g h3 h4 => hK _ _ (h2 g h3 h4)⟩
  | s => obtain ⟨z, b0, b1, v, h0, h1, h2, h3⟩ := h; exact ⟨z, b0, b1, v, h0, h1, h2, hK _ _ h3⟩
section
variable {oi oj : Oper} {a : Act} {U : Ow} {K : Act → Ow → Prop}
theorem cells_inj {cs cs' : List Value} {t t' : TypeId} (h : Obj.cells cs.toArray t (0, 0) = Obj.cells cs'.toArray t' (0, 0)) : cs = cs' ∧ t = t' := by
  injection h with h1 h2
  exact ⟨by simpa using h1, h2⟩
/-- What may change places does. -/
theorem EffW.comm {ki kj : Kd} (hn : needE ki kj = false) (si : ∀ cs b, oi.op ≠ .select cs b) (sj : ∀ cs b, oj.op ≠ .select cs b) (hap : oi.apart ops oj = true) (hU : U.fin)
    (h : EffW P ops w0 U0 oi a U (fun a1 U1 => EffW P ops w0 U0 oj a1 U1 K kj) ki) : EffW P ops w0 U0 oj a U (fun a2 U2 => EffW P ops w0 U0 oi a2 U2 K ki) kj := by
  obtain ⟨h1, h2, h3⟩ := Oper.apart_spec hap
  have ej : ∀ u, execOp (a.put oi.dst u).eval oj = execOp a.eval oj := fun u => execOp_put oj sj a oi.dst u h1
  have wj : ∀ u, Region.wanted oj (yielded ops (a.put oi.dst u).tmps) = Region.wanted oj (yielded ops a.tmps) := fun u => wanted_put oj a oi.dst u h1
  have ei : ∀ u, execOp (a.put oj.dst u).eval oi = execOp a.eval oi := fun u => execOp_put oi si a oj.dst u h3
  have wi : ∀ u, Region.wanted oi (yielded ops (a.put oj.dst u).tmps) = Region.wanted oi (yielded ops a.tmps) := fun u => wanted_put oi a oj.dst u h3
  have pj : ∀ {v u}, YieldsW P ops w0 U0 oj v (a.put oi.dst u) → YieldsW P ops w0 U0 oj v a := fun hy => by unfold YieldsW keepsAt at *; rw [ej, wj] at hy; exact hy
  have aj : ∀ {mk b u}, AllocsAt P ops oj (a.put oi.dst u) mk b → AllocsAt P ops oj a mk b := fun hy => by unfold AllocsAt at *; rw [ej, wj] at hy; exact hy
  have sj' : ∀ {z b0 b1 v u}, StoresW P ops w0 U0 oj (a.put oi.dst u) z b0 b1 v → StoresW P ops w0 U0 oj a z b0 b1 v := fun hy => by unfold StoresW at *; rw [ej, wj] at hy; exact hy
  have pi' : ∀ {v u}, YieldsW P ops w0 U0 oi v a → YieldsW P ops w0 U0 oi v (a.put oj.dst u) := fun hy => by unfold YieldsW keepsAt at *; rw [ei, wi]; exact hy
  have ai : ∀ {mk b u}, AllocsAt P ops oi a mk b → AllocsAt P ops oi (a.put oj.dst u) mk b := fun hy => by unfold AllocsAt at *; rw [ei, wi]; exact hy
  have si' : ∀ {z b0 b1 v u}, StoresW P ops w0 U0 oi a z b0 b1 v → StoresW P ops w0 U0 oi (a.put oj.dst u) z b0 b1 v := fun hy => by unfold StoresW at *; rw [ei, wi]; exact hy
  have pc : ∀ v u, (a.put oj.dst u).put oi.dst v = (a.put oi.dst v).put oj.dst u := fun v u => (Act.put_comm a v u h2).symm
  cases ki <;> cases kj <;> simp only [needE] at hn
  all_goals first | exact absurd hn (by decide) | exact h.elim | skip
  all_goals first | (obtain ⟨_, _, h0⟩ := h; exact h0.elim) | skip
  · obtain ⟨v, hv, u, hu, hK⟩ := h
    exact ⟨u, pj hu, v, pi' hv, by rw [pc]; exact hK⟩
  · obtain ⟨v, hv, mk, t, cs, hA, hK⟩ := h
    exact ⟨mk, t, cs, aj hA, fun g hg hf => ⟨v, pi' hv, by rw [pc]; exact hK g hg hf⟩⟩
  · obtain ⟨v, hv, z, b0, b1, x, hZ, hz, hS, hK⟩ := h
    exact ⟨z, b0, b1, x, hZ, hz, sj' hS, v, pi' hv, by rw [pc]; exact hK⟩
  · obtain ⟨mk, t, cs, hA, H⟩ := h
    obtain ⟨g0, hg0, hf0⟩ := hU.new w0.heap.size
    obtain ⟨mk', t', cs', hA', _⟩ := H g0 hg0 hf0
    refine ⟨mk', t', cs', aj hA', fun g' hg' hf' => ⟨mk, t, cs, ai hA, fun g hg hf => ?_⟩⟩
    have hne : g ≠ g' := fun e => by subst e; rw [Ow.put_same] at hf; cases hf
    rw [Ow.put_ne _ _ hne] at hf
    obtain ⟨mk2, t2, cs2, hA2, hK⟩ := H g hg hf
    obtain ⟨rfl, hb⟩ := AllocsAt.uniq w0 (aj hA') (aj hA2)
    obtain ⟨rfl, rfl⟩ := cells_inj hb
    rw [pc, Ow.put_comm U _ _ (Ne.symm hne)]
    exact hK g' hg' (by rw [Ow.put_ne _ _ (Ne.symm hne)]; exact hf')
  · obtain ⟨z, b0, b1, x, hZ, hz, hS, u, hu, hK⟩ := h
    exact ⟨u, pj hu, z, b0, b1, x, hZ, hz, si' hS, by rw [pc]; exact hK⟩
  · obtain ⟨z, b0, b1, x, hZ, hz, hS, mk, t, cs, hA, hK⟩ := h
    refine ⟨mk, t, cs, aj hA, fun g hg hf => ?_⟩
    have hne : z ≠ g := fun e => by subst e; rw [hf] at hz; cases hz
    refine ⟨z, b0, b1, x, hZ, by rw [Ow.put_ne _ _ hne]; exact hz, si' hS, ?_⟩
    rw [pc, Ow.put_comm U _ _ (Ne.symm hne)]
    exact hK g hg (by rw [Ow.put_ne _ _ (Ne.symm hne)]; exact hf)
end
theorem EffW.fin {o : Oper} {a : Act} {U : Ow} {K : Act → Ow → Prop} {k : Kd} (hU : U.fin) (h : EffW P ops w0 U0 o a U K k) : EffW P ops w0 U0 o a U (fun a' U' => U'.fin ∧ K a' U') k := by
  cases k with
  | q => exact h.elim
  | p => obtain ⟨v, h1, h2⟩ := h; exact ⟨v, h1, hU, h2⟩
  | a => obtain ⟨mk, t, cs, h1, h2⟩ := h; exact ⟨mk, t, cs, h1, fun g h3 h4 => ⟨hU.put _ _, h2 g h3 h4⟩⟩
  | s => obtain ⟨z, b0, b1, v, h0, h1, h2, h3⟩ := h; exact ⟨z, b0, b1, v, h0, h1, h2, hU.put _ _, h3⟩

/-! Every order -/
def HeadW (P : Program) (md : Region.Mode) (ops : Array Oper) (w0 : World) (U0 : Ow) (kd : Nat → Kd) (N : Nat) (L : Array Bool → Act → Ow → Prop) : Nat → Array Bool → Act → Ow → Prop
  | 0, done, a, U => L done a U
  | f + 1, done, a, U => Region.ready md ops done ≠ [] ∧ ∀ i ∈ Region.ready md ops done, i < N ∧ ∃ o, ops[i]? = some o ∧ EffW P ops w0 U0 o a U (HeadW P md ops w0 U0 kd N L f (done.setIfInBounds i true)) (kd i)
variable {kd : Nat → Kd} {N : Nat}
theorem HeadW.any {L : Array Bool → Act → Ow → Prop} {g : Nat} {Q : Exit → Act → World → Prop} (hL : ∀ done a U W, HU w0 W U → L done a U → wpAny P md ops Q g done a W) (f : Nat) :
    ∀ (done : Array Bool) (a : Act) (U : Ow) (W : World), HU w0 W U → U.fin → U0.le U → HeadW P md ops w0 U0 kd N L f done a U → wpAny P md ops Q (f + g) done a W := by
  induction f with
  | zero => intro done a U W hw _ _ h; rw [Nat.zero_add]; exact hL _ _ _ _ hw h
  | succ f ih =>
    intro done a U W hw hF hI h
    rw [show f + 1 + g = (f + g) + 1 by omega]
    refine ⟨fun h0 => absurd h0 h.1, fun i hi => ?_⟩
    obtain ⟨_, o, ho, hE⟩ := h.2 i hi
    cases hkd : kd i with
    | q => rw [hkd] at hE; exact hE.elim
    | p =>
      rw [hkd] at hE
      obtain ⟨v, hy, hK⟩ := hE
      refine wpOp_of_qOp (C := fun w' => Below W.heap.size W w') (K := fun a' => a' = a.put o.dst v) (Below.refl _ _) (fun a' w' hw' e => by subst e; exact ih _ _ _ _ (hw.go hw') hF hI hK) ?_
      unfold qOp
      simp only [ho]
      rcases hy with ⟨h1, h2⟩ | ⟨h1, rfl⟩
      · rw [if_pos h1]
        exact ⟨v, fun w' hw' => quietUpon_mono (fun w'' h' => hw'.trans (h'.mono hw'.size)) (h2 w' ((hw.less hI).go hw')), rfl⟩
      · rw [if_neg (by rw [h1]; exact Bool.false_ne_true)]
    | a =>
      rw [hkd] at hE
      obtain ⟨mk, t, cs, ⟨h1, h2⟩, hK⟩ := hE
      unfold wpOp
      simp only [ho]
      rw [if_pos h1]
      refine .inl ?_
      unfold Oper.wp
      rw [h2, Oper.upon_value]
      exact ih _ _ _ _ (hw.alloc t cs) (hF.put _ _) (hI.put _ (hI.none hw.new)) (hK _ hw.bel.size hw.new)
    | s =>
      rw [hkd] at hE
      obtain ⟨z, b0, b1, v, hZ, hz0, ⟨h1, h2⟩, hK⟩ := hE
      have h3 := h2 U W hw hF hI hz0
      unfold wpOp
      simp only [ho]
      rw [if_pos h1]
      refine .inl ?_
      unfold Oper.wp
      generalize (execOp a.eval o).run P W = r at h3
      cases r with
      | ok n W' =>
        cases n <;> simp only [upH] at h3 <;> simp only [Oper.upon]
        case value u =>
          obtain ⟨e1, hz'⟩ := h3
          rw [e1]
          exact ih _ _ _ _ hz' (hF.put _ _) (hI.put b1 hZ) hK
        case skip =>
          obtain ⟨e1, hz'⟩ := h3
          rw [← e1]
          exact ih _ _ _ _ hz' (hF.put _ _) (hI.put b1 hZ) hK
        case enter f' args =>
          obtain ⟨e1, hc⟩ := h3
          rw [e1]
          exact hc.mono fun e w'' ⟨he, hz'⟩ => by subst he; exact ih _ _ _ _ hz' (hF.put _ _) (hI.put b1 hZ) hK
      | halt x W' => simp only [upH] at h3

theorem HeadW.first {L : Array Bool → Act → Ow → Prop} {i : Nat} {oi : Oper} (hi : ops[i]? = some oi) (hiN : i < N) (hsel : ∀ (j : Nat) (o : Oper) cs b, ops[j]? = some o → o.op ≠ .select cs b)
    (hE : edgesU md ops kd N = true) (hs : Region.sinkB md ops N = true) (hc : Region.chainB md ops N = true) (hn : N < ops.size) (hL : ∀ done a U, L done a U → ∀ j ∈ Region.ready md ops done, N ≤ j) (f : Nat) :
    ∀ (done : Array Bool) (a : Act) (U : Ow), HeadInv md ops N done → U.fin → (∀ j, j < i → done.getD j true = true) →
      (∀ j oj, ops[j]? = some oj → j ≠ i → done.getD j true = false → (∀ e ∈ oj.after, Region.binds md e = true → e.on ≠ i) → oi.apart ops oj = true) →
      i ∈ Region.ready md ops done → EffW P ops w0 U0 oi a U (HeadW P md ops w0 U0 kd N L f (done.setIfInBounds i true)) (kd i) → HeadW P md ops w0 U0 kd N L (f + 1) done a U := by
  have low : ∀ done, HeadInv md ops N done → i ∈ Region.ready md ops done → ∀ j ∈ Region.ready md ops done, j < N := fun done inv hr j hj => by
    rcases Nat.lt_or_ge j N with h | h
    · exact h
    · exact absurd hj (tail_waits hs hc hn inv _ i rfl hiN (mem_ready.1 hr).1 j h)
  have some_one : ∀ {o : Oper} {a : Act} {U : Ow} {K : Act → Ow → Prop} {k : Kd}, U.fin → EffW P ops w0 U0 o a U K k → ∃ a' U', K a' U' := by
    intro o a U K k hU h
    cases k with
    | q => exact h.elim
    | p => obtain ⟨v, _, h2⟩ := h; exact ⟨_, _, h2⟩
    | a => obtain ⟨mk, t, cs, _, h2⟩ := h; obtain ⟨g, h3, h4⟩ := hU.new w0.heap.size; exact ⟨_, _, h2 g h3 h4⟩
    | s => obtain ⟨z, b0, b1, v, _, _, _, h2⟩ := h; exact ⟨_, _, h2⟩
  induction f with
  | zero =>
    intro done a U inv hU _ _ hr H
    refine ⟨fun h => (by rw [h] at hr; cases hr), fun j hj => ⟨low done inv hr j hj, ?_⟩⟩
    rcases Nat.decEq j i with hji | hji
    · obtain ⟨a', U', hl⟩ := some_one hU H
      have := hL _ _ _ hl j (ready_mono hj hji)
      have := low done inv hr j hj
      omega
    · subst hji; exact ⟨oi, hi, H⟩
  | succ f ih =>
    intro done a U inv hU hd hfree hr H
    refine ⟨fun h => (by rw [h] at hr; cases hr), fun j hj => ⟨low done inv hr j hj, ?_⟩⟩
    rcases Nat.decEq j i with hji | hji
    · obtain ⟨hjun, oj, hoj, hall⟩ := mem_ready.1 hj
      have hun := (mem_ready.1 hr).1
      have hnot : ∀ e ∈ oj.after, Region.binds md e = true → e.on ≠ i := fun e he hb heq => by
        have h1 := hall e he hb
        rw [heq, getD_both hun] at h1
        cases h1
      have hap := hfree j oj hoj hji hjun hnot
      have back : ∀ k, (done.setIfInBounds j true).getD k true = false → done.getD k true = false := fun k hk => by
        rcases Nat.decEq j k with hjk | hjk
        · rw [getD_set_ne true hjk] at hk; exact hk
        · subst hjk; exact hjun
      have hij : i < j := by
        rcases Nat.lt_or_ge i j with h | h
        · exact h
        · have := hd j (by omega)
          rw [hjun] at this
          cases this
      have hjN := low done inv hr j hj
      have hne : needE (kd i) (kd j) = false := by
        cases hq : needE (kd i) (kd j) with
        | false => rfl
        | true => exact absurd hj (reach_waits inv (edgesU_spec hE hjN hij hq) hun)
      refine ⟨oj, hoj, ?_⟩
      have H2 : EffW P ops w0 U0 oi a U (fun a1 U1 => EffW P ops w0 U0 oj a1 U1 (HeadW P md ops w0 U0 kd N L f ((done.setIfInBounds j true).setIfInBounds i true)) (kd j)) (kd i) := H.mono fun a1 U1 h => by
        obtain ⟨_, oj', hoj', hh⟩ := h.2 j (ready_mono hj hji)
        obtain rfl : oj = oj' := Option.some.inj (hoj.symm.trans hoj')
        rw [Array.setIfInBounds_comm _ _ hji]
        exact hh
      have H3 := EffW.fin hU (EffW.comm hne (fun cs b => hsel i oi cs b hi) (fun cs b => hsel j oj cs b hoj) hap hU H2)
      refine H3.mono fun a2 U2 ⟨hf2, h2⟩ => ih _ a2 U2 (inv.set hj hjN) hf2 (fun k hk => by rw [getD_set_ne true (by omega)]; exact hd k hk) (fun k ok hk hki hun' hno => hfree k ok hk hki (back k hun') hno) (ready_mono hr (Ne.symm hji)) h2
    · subst hji; exact ⟨oi, hi, H⟩

/-- The walk in the text's order. -/
def wpW (P : Program) (ops : Array Oper) (w0 : World) (U0 : Ow) (kd : Nat → Kd) (R : Act → Ow → Prop) : Nat → List Oper → Act → Ow → Prop
  | _, [], a, U => R a U
  | k, o :: os, a, U => EffW P ops w0 U0 o a U (wpW P ops w0 U0 kd R (k + 1) os) (kd k)
theorem HeadW.lex {g : Nat} {R : Act → Ow → Prop} (hsel : Region.noSelect ops = true) (hE : edgesU md ops kd N = true) (hs : Region.sinkB md ops N = true) (hc : Region.chainB md ops N = true) (hn : N < ops.size) (l : List Oper) :
    ∀ (k : Nat) (done : Array Bool) (a : Act) (U : Ow), (∀ j, j < l.length → l[j]? = ops[k + j]?) → k + l.length = N → HeadInv md ops N done → (∀ j, j < k → done.getD j true = true) → U.fin →
      Region.lexHead md ops g l.length k done = true → wpW P ops w0 U0 kd R k l a U →
      HeadW P md ops w0 U0 kd N (fun done' a' U' => Region.seqB md ops g N done' = true ∧ R a' U') l.length done a U := by
  induction l with
  | nil =>
    intro k done a U _ hk _ _ _ hB h
    obtain rfl : k = N := by simpa using hk
    exact ⟨by simpa [Region.lexHead] using hB, h⟩
  | cons o l ih =>
    intro k done a U hl hk inv hd hU hB h
    have h0 : ops[k]? = some o := by simpa using (hl 0 (by simp)).symm
    simp only [List.length_cons] at hk hB ⊢
    rw [Region.lexHead, Bool.and_eq_true, Bool.and_eq_true] at hB
    obtain ⟨⟨hr, hf⟩, hB'⟩ := hB
    have hr' : k ∈ Region.ready md ops done := by simpa using hr
    have hd' : ∀ j, j < k + 1 → (done.setIfInBounds k true).getD j true = true := fun j hj => by
      rcases Nat.decEq k j with hkj | hkj
      · rw [getD_set_ne true hkj]; exact hd j (by omega)
      · subst hkj
        have hks : k < done.size := by rw [inv.size]; omega
        simp [hks]
    refine HeadW.first h0 (by omega) (Region.noSelect_spec hsel) hE hs hc hn (fun done' a' U' hL => seqB_ready hL.1) l.length done a U inv hU hd (Region.free_spec h0 hf) hr' ?_
    exact (EffW.fin hU h).mono fun a' U' ⟨hf', h'⟩ => ih (k + 1) _ a' U' (fun j hj => by have := hl (j + 1) (by simp; omega); simpa [Nat.add_assoc, Nat.add_comm 1 j] using this) (by omega) (inv.set hr' (by omega)) hd' hf' hB' h'

/-- **A drawn region**, walked in the text's order. -/
theorem wp_region_W {id : Nat} {Q : Exit → Act → World → Prop} {a : Act} {l : List Oper} (N : Nat) (kd : Nat → Kd) (U : Ow) {w : World} (hU : U.fin) (hok : HU w0 w U) (hI : U0.le U) (hm : P.follows .mixedOrders = true) (hB : Region.lexTailB .any l.toArray N = true) (hE : edgesU .any l.toArray kd N = true)
    (h : wpW P l.toArray w0 U0 kd (fun a' U' => ∀ W, HU w0 W U' → wpList P l.toArray Q (l.drop N) a' W) 0 (l.take N) a U) : (Code.region id l.toArray true).wp P Q a w := by
  simp only [Region.lexTailB, Bool.and_eq_true, decide_eq_true_eq] at hB
  obtain ⟨⟨⟨⟨hsel, hn⟩, hs⟩, hc⟩, hlex⟩ := hB
  have hn' : N < l.length := by simpa using hn
  have htl : (l.take N).length = N := by simp; omega
  have hdl : (l.drop N).length = l.toArray.size - N := by simp
  have start : HeadInv .any l.toArray N (Array.replicate l.toArray.size false) := by
    constructor
    · simp
    · intro j oj _ hl; rw [getD_replicate_false] at hl; cases hl
    · intro t _ ht; exact getD_in (by simpa using ht) (getD_replicate_false _ _)
  have H := HeadW.lex (P := P) (w0 := w0) (U0 := U0) (md := .any) (kd := kd) (N := N) (g := l.toArray.size - N) (R := fun a' U' => ∀ W, HU w0 W U' → wpList P l.toArray Q (l.drop N) a' W) hsel hE hs hc hn (l.take N) 0 _ a U
    (fun j hj => by rw [htl] at hj; simp [hj]) (by rw [htl]; omega) start (fun j hj => by omega) hU (by rw [htl]; exact hlex) h
  rw [htl] at H
  refine wp_region_any hm ?_
  have := HeadW.any (Q := Q) (g := l.toArray.size - N) (fun done a' U' W hW hL => by
    have := wpAny_of_seq (md := .any) (Q' := Q) (l.drop N) N done a' W (fun j => by simp [List.getElem?_drop]) (by rw [hdl]; exact hL.1) (hL.2 W hW)
    rwa [hdl] at this) _ _ _ _ _ (show HU w0 { w with drawn := w.drawn + 1 } U from ⟨hok.blk, hok.bel.drew, hok.t0⟩) hU hI H
  rwa [show N + (l.toArray.size - N) = l.toArray.size by omega] at this
end

/-! Over the list of blocks -/
def owOf : Ents → Ow
  | [] => fun _ => none
  | (g, t, cs) :: l => (owOf l).put g (t, cs)
theorem owOf_some {l : Ents} {k : Nat} {b : TypeId × List Value} (h : owOf l k = some b) : (k, b) ∈ l := by
  induction l with
  | nil => cases h
  | cons x l ih =>
    obtain ⟨g, t, cs⟩ := x
    unfold owOf Ow.put at h
    by_cases hk : k = g
    · rw [if_pos hk] at h
      injection h with h
      subst hk
      subst h
      exact .head _
    · rw [if_neg hk] at h
      exact .tail _ (ih h)
theorem owOf_mem {l : Ents} (hn : (l.map (·.1)).Nodup) {x : Nat × TypeId × List Value} (hx : x ∈ l) : owOf l x.1 = some x.2 := by
  induction l with
  | nil => cases hx
  | cons y l ih =>
    obtain ⟨g, t, cs⟩ := y
    rw [List.map_cons, List.nodup_cons] at hn
    unfold owOf Ow.put
    rcases List.mem_cons.1 hx with rfl | hx
    · rw [if_pos rfl]
    · rw [if_neg (fun e => hn.1 (by rw [← e]; exact List.mem_map.2 ⟨x, hx, rfl⟩))]
      exact ih hn.2 hx
theorem owOf_upd {l l' : Ents} {z : Nat} {T : TypeId} {cs ds : List Value} (h : Upd l z T cs ds l') (hn : (l.map (·.1)).Nodup) : owOf l' = (owOf l).put z (T, ds) := by
  induction h with
  | head =>
    rename_i z _ _ _ _
    funext k
    show Ow.put (owOf _) _ _ k = Ow.put (Ow.put (owOf _) _ _) _ _ k
    unfold Ow.put
    by_cases hk : k = z
    · rw [if_pos hk, if_pos hk]
    · rw [if_neg hk, if_neg hk, if_neg hk]
  | tail h ih =>
    rename_i z _ _ _ l1 l2 y
    obtain ⟨g, t, es⟩ := y
    rw [List.map_cons, List.nodup_cons] at hn
    have hne : z ≠ g := fun e => hn.1 (by rw [← e]; exact List.mem_map.2 ⟨_, h.mem, rfl⟩)
    show (owOf l2).put g _ = ((owOf l1).put g _).put z _
    rw [ih hn.2, Ow.put_comm _ _ _ hne]
theorem upd_of_mem {l : Ents} {z : Nat} {T : TypeId} {cs : List Value} (ds : List Value) (h : (z, T, cs) ∈ l) : ∃ l', Upd l z T cs ds l' := by
  induction l with
  | nil => cases h
  | cons x l ih =>
    rcases List.mem_cons.1 h with rfl | h
    · exact ⟨_, .head⟩
    · obtain ⟨l', hl⟩ := ih h
      exact ⟨_, .tail hl⟩
theorem Upd.keep {l l' : Ents} {z : Nat} {T : TypeId} {cs ds : List Value} (h : Upd l z T cs ds l') {x : Nat × TypeId × List Value} (hx : x ∈ l) (hne : x.1 ≠ z) : x ∈ l' := by
  induction h with
  | head =>
    rcases List.mem_cons.1 hx with rfl | hx
    · exact absurd rfl hne
    · exact .tail _ hx
  | tail h ih =>
    rcases List.mem_cons.1 hx with rfl | hx
    · exact .head _
    · exact .tail _ (ih hx hne)
theorem ents_of (U : Ow) : ∀ n, (∀ g b, U g = some b → g < n) → ∃ l : Ents, (l.map (·.1)).Nodup ∧ owOf l = U ∧ ∀ x ∈ l, x.1 < n := by
  intro n
  induction n generalizing U with
  | zero => intro h; exact ⟨[], List.Pairwise.nil, by funext k; cases hu : U k with | none => rfl | some b => exact absurd (h k b hu) (by omega), fun x hx => by cases hx⟩
  | succ n ih =>
    intro h
    obtain ⟨l, h1, h2, h3⟩ := ih (fun k => if k = n then none else U k) (fun g b hu => by
      by_cases hg : g = n
      · simp [hg] at hu
      · simp only [if_neg hg] at hu
        have := h g b hu
        omega)
    cases hu : U n with
    | none =>
      refine ⟨l, h1, ?_, fun x hx => by have := h3 x hx; omega⟩
      rw [h2]
      funext k
      by_cases hk : k = n
      · subst hk; simp [hu]
      · simp [hk]
    | some b =>
      refine ⟨(n, b) :: l, ?_, ?_, fun x hx => ?_⟩
      · rw [List.map_cons, List.nodup_cons]
        refine ⟨fun hm => ?_, h1⟩
        obtain ⟨x, hx, he⟩ := List.mem_map.1 hm
        have h4 := h3 x hx
        have h5 : x.1 = n := he
        omega
      · obtain ⟨t, cs⟩ := b
        show (owOf l).put n (t, cs) = U
        rw [h2]
        funext k
        unfold Ow.put
        by_cases hk : k = n
        · subst hk; simp [hu]
        · simp [hk]
      · rcases List.mem_cons.1 hx with rfl | hx
        · exact Nat.lt_succ_self n
        · have := h3 x hx; omega
theorem Hp.hu {w0 W : World} {l : Ents} (h : Hp w0 W l) : HU w0 W (owOf l) := ⟨fun k x hu => h.blk _ (owOf_some hu), h.bel, h.t0⟩
theorem HU.hp {w0 W : World} {l : Ents} (h : HU w0 W (owOf l)) (hn : (l.map (·.1)).Nodup) : Hp w0 W l := ⟨fun x hx => h.blk _ _ (owOf_mem hn hx), hn, h.bel, h.t0⟩

section
variable {P : Program} {ops : Array Oper} {rest : List Oper} {o : Oper} {a : Act} {w0 w : World} {l l' l0 : Ents} {Q : Exit → Act → World → Prop} {kd : Nat → Kd} {k : Nat} {R : Act → Ents → Prop}
def YieldsP0 (P : Program) (ops : Array Oper) (w0 : World) (l0 : Ents) (o : Oper) (v : Value) (a : Act) : Prop :=
  (Region.wanted o (yielded ops a.tmps) = true ∧ ∀ W, Hid (Hp w0 W l0) → keepsAt P o a W v) ∨ (Region.wanted o (yielded ops a.tmps) = false ∧ v = undef)
def upP (P : Program) (w0 : World) (m : Ents) (W : World) (v : Value) : Result Next → Prop
  | .ok (.value u) W' => u = v ∧ Hp w0 W' m
  | .ok .skip W' => v = undef ∧ Hp w0 W' m
  | .ok (.enter f args) W' => W' = W ∧ Calls P f args W (fun e W'' => e = .returned v ∧ Hp w0 W'' m)
  | _ => False
def StoresP0 (P : Program) (ops : Array Oper) (w0 : World) (l0 : Ents) (o : Oper) (a : Act) (z : Nat) (T : TypeId) (cs ds : List Value) (v : Value) : Prop :=
  Region.wanted o (yielded ops a.tmps) = true ∧ ∀ m m' W, Hid (Hp w0 W m) → (∀ x ∈ l0, x ∈ m) → Upd m z T cs ds m' → upP P w0 m' W v ((execOp a.eval o).run P W)
def wpV (P : Program) (ops : Array Oper) (w0 : World) (l0 : Ents) (kd : Nat → Kd) (R : Act → Ents → Prop) : Nat → List Oper → Act → Ents → Prop
  | _, [], a, l => R a l
  | k, o :: os, a, l =>
    (kd k = .p ∧ ∃ v, YieldsP0 P ops w0 l0 o v a ∧ wpV P ops w0 l0 kd R (k + 1) os (a.put o.dst v) l) ∨
    (kd k = .a ∧ ∃ mk t cs, AllocsAt P ops o a mk (.cells cs.toArray t (0, 0)) ∧ ∀ g, wpV P ops w0 l0 kd R (k + 1) os (a.put o.dst (mk g)) ((g, t, cs) :: l)) ∨
    (kd k = .s ∧ ∃ z T cs ds l' v, (∀ x ∈ l0, x.1 ≠ z) ∧ Upd l z T cs ds l' ∧ StoresP0 P ops w0 l0 o a z T cs ds v ∧ wpV P ops w0 l0 kd R (k + 1) os (a.put o.dst v) l')
theorem wpV_nil (h : R a l) : wpV P ops w0 l0 kd R k [] a l := h
/-- Pure. -/
theorem wpV_P {v : Value} (hp : kd k = .p) (hg : Region.wanted o (yielded ops a.tmps) = true) (hr : ∀ W, (execOp a.eval o).run P W = .ok (.value v) W) (h : wpV P ops w0 l0 kd R (k + 1) rest (a.put o.dst v) l) : wpV P ops w0 l0 kd R k (o :: rest) a l :=
  .inl ⟨hp, v, .inl ⟨hg, fun W _ => by unfold keepsAt; rw [hr W]; exact ⟨rfl, rfl⟩⟩, h⟩
/-- A call that leaves all that was there. -/
theorem wpV_C {v : Value} (hp : kd k = .p) (hg : Region.wanted o (yielded ops a.tmps) = true) (hr : ∀ W, Hid (Hp w0 W l0) → keepsAt P o a W v) (h : wpV P ops w0 l0 kd R (k + 1) rest (a.put o.dst v) l) : wpV P ops w0 l0 kd R k (o :: rest) a l :=
  .inl ⟨hp, v, .inl ⟨hg, hr⟩, h⟩
theorem wpV_load {t T : TypeId} {p : Operand} {b j n : Nat} {cs ds : List Value} (hk : kd k = .p) (ho : o.op = .load t p) (hg : Region.wanted o (yielded ops a.tmps) = true) (hT : RowT P t n) (hp : a.eval p = .pointer (some ⟨b, j, none⟩))
    (hm : (b, T, cs) ∈ l0) (hx : (cs.drop j).take n = ds) (hl : ds.length = n) (h : wpV P ops w0 l0 kd R (k + 1) rest (a.put o.dst (.agg ds.toArray)) l) : wpV P ops w0 l0 kd R k (o :: rest) a l :=
  wpV_C hk hg (fun W hW => by
    have hr := run_loadB (P := P) (t := t) (k := j) (hW.out.get hm) hT (by simpa using hx) hl
    unfold keepsAt execOp
    simp only [ho, hp, hr, Sem.run_bind, Sem.run_pure, Result.andThen_ok]
    exact ⟨rfl, rfl⟩) h
theorem wpV_load1 {t T : TypeId} {p : Operand} {b j : Nat} {cs : List Value} {v : Value} (hk : kd k = .p) (ho : o.op = .load t p) (hg : Region.wanted o (yielded ops a.tmps) = true) (hT : ∃ d, P.underlying t = some d ∧ d.isRow = false) (hp : a.eval p = .pointer (some ⟨b, j, none⟩))
    (hm : (b, T, cs) ∈ l0) (hx : cs[j]? = some v) (h : wpV P ops w0 l0 kd R (k + 1) rest (a.put o.dst v) l) : wpV P ops w0 l0 kd R k (o :: rest) a l :=
  wpV_C hk hg (fun W hW => by
    have hb := (hW.out.get hm).out
    have hr := run_loadC (P := P) (t := t) (k := j) hT hb (by simpa using hx)
    unfold keepsAt execOp
    simp only [ho, hp, hr, Sem.run_bind, Sem.run_pure, Result.andThen_ok]
    exact ⟨rfl, rfl⟩) h
theorem wpV_A {t : TypeId} {cs : List Value} (hp : kd k = .a) (hA : Allocs P ops o (.cells cs.toArray t)) (h : ∀ g, wpV P ops w0 l0 kd R (k + 1) rest (a.put o.dst (.pointer (some ⟨g, 0, none⟩))) ((g, t, cs) :: l)) : wpV P ops w0 l0 kd R k (o :: rest) a l :=
  .inr (.inl ⟨hp, fun g => .pointer (some ⟨g, 0, none⟩), t, cs, ⟨(hA a w0).1, fun W => (hA a W).2⟩, h⟩)
/-- A call that changes a known block. -/
theorem wpV_S {z : Nat} {T : TypeId} {cs : List Value} (ds : List Value) {v : Value} (hp : kd k = .s) (hg : Region.wanted o (yielded ops a.tmps) = true) (hz : ∀ x ∈ l0, x.1 ≠ z) (hu : Upd l z T cs ds l')
    (hr : ∀ m m' W, Hid (Hp w0 W m) → (∀ x ∈ l0, x ∈ m) → Upd m z T cs ds m' → upP P w0 m' W v ((execOp a.eval o).run P W)) (h : wpV P ops w0 l0 kd R (k + 1) rest (a.put o.dst v) l') : wpV P ops w0 l0 kd R k (o :: rest) a l :=
  .inr (.inr ⟨hp, z, T, cs, ds, l', v, hz, hu, ⟨hg, hr⟩, h⟩)
theorem wpW_of (n0 : (l0.map (·.1)).Nodup) {R' : Act → Ow → Prop} (os : List Oper) : ∀ (k : Nat) (a : Act) (l1 : Ents), (l1.map (·.1)).Nodup → (∀ x ∈ l0, x ∈ l1) →
    (∀ a' l2, (l2.map (·.1)).Nodup → R a' l2 → R' a' (owOf l2)) → wpV P ops w0 l0 kd R k os a l1 → wpW P ops w0 (owOf l0) kd R' k os a (owOf l1) := by
  induction os with
  | nil => intro k a l1 nd _ hR h; exact hR a l1 nd h
  | cons o os ih =>
    intro k a l1 nd sub hR h
    show EffW P ops w0 (owOf l0) o a (owOf l1) (wpW P ops w0 (owOf l0) kd R' (k + 1) os) (kd k)
    rcases h with ⟨hp, v, hy, hK⟩ | ⟨hp, mk, t, cs, hA, hK⟩ | ⟨hp, z, T, cs, ds, l2, v, hz, hu, hS, hK⟩
    · rw [hp]
      refine ⟨v, ?_, ih _ _ _ nd sub hR hK⟩
      rcases hy with ⟨y1, y2⟩ | y
      · exact .inl ⟨y1, fun W hW => y2 W (Lib.hid (hW.hp n0))⟩
      · exact .inr y
    · rw [hp]
      refine ⟨mk, t, cs, hA, fun g hg hf => ih _ _ ((g, t, cs) :: l1) ?_ (fun x hx => .tail _ (sub x hx)) hR (hK g)⟩
      rw [List.map_cons, List.nodup_cons]
      refine ⟨fun hm => ?_, nd⟩
      obtain ⟨x, hx, he⟩ := List.mem_map.1 hm
      have := owOf_mem nd hx
      rw [he, hf] at this
      cases this
    · rw [hp]
      have e := owOf_upd hu nd
      have hz0 : owOf l0 z = none := by
        cases hq : owOf l0 z with
        | none => rfl
        | some b => exact absurd rfl (hz _ (owOf_some hq))
      refine ⟨z, _, (T, ds), v, hz0, owOf_mem nd hu.mem, ⟨hS.1, fun U W hW hF hI hUz => ?_⟩, ?_⟩
      · obtain ⟨n, hn⟩ := hF
        obtain ⟨m, m1, m2, _⟩ := ents_of U n hn
        subst m2
        obtain ⟨m', hm'⟩ := upd_of_mem ds (owOf_some hUz)
        have h3 := hS.2 m m' W (Lib.hid (hW.hp m1)) (fun x hx => owOf_some (hI _ _ (owOf_mem n0 hx))) hm'
        have e' := owOf_upd hm' m1
        rw [← e']
        generalize (execOp a.eval o).run P W = r at h3
        cases r with
        | ok q W' =>
          cases q <;> simp only [upP] at h3 <;> simp only [upH]
          case value u => exact ⟨h3.1, h3.2.hu⟩
          case skip => exact ⟨h3.1, h3.2.hu⟩
          case enter f' args => exact ⟨h3.1, h3.2.mono fun e' w'' ⟨he, hz'⟩ => ⟨he, hz'.hu⟩⟩
        | halt x W' => simp only [upP] at h3
      · show wpW P ops w0 (owOf l0) kd R' (k + 1) os (a.put o.dst v) ((owOf l1).put z (T, ds))
        rw [← e]
        exact ih _ _ l2 (by rw [hu.fst]; exact nd) (fun x hx => hu.keep (sub x hx) (hz x hx)) hR hK
/-- **A drawn region with calls that change a known block**: N operations in the text's order, then the rest in its forced order. -/
theorem wp_region_V {id : Nat} {ol : List Oper} (N : Nat) (ks : List Kd) (l0 : Ents) (H : Hid (Hp w0 w l)) (sub : ∀ x ∈ l0, x ∈ l) (n0 : (l0.map (·.1)).Nodup) (hm : P.follows .mixedOrders = true) (hB : Region.lexTailB .any ol.toArray N = true) (hE : edgesU .any ol.toArray (fun k => ks.getD k .p) N = true)
    (h : wpV P ol.toArray w0 l0 (fun k => ks.getD k .p) (fun a'' l' => ∀ W, Hid (Hp w0 W l') → wpList P ol.toArray Q (ol.drop N) a'' W) 0 (ol.take N) a l) : (Code.region id ol.toArray true).wp P Q a w :=
  wp_region_W (U0 := owOf l0) N _ (owOf l) ⟨w.heap.size, fun g b hu => H.out.lt (owOf_some hu)⟩ H.out.hu (fun k x hu => owOf_mem H.out.nd (sub _ (owOf_some hu))) hm hB hE
    (wpW_of n0 _ 0 a l H.out.nd sub (fun a'' l2 nd hR W hW => hR W (Lib.hid (hW.hp nd))) h)
end
end Go.Proofs.Ythepafendopfhaa

namespace Go.Proofs.Ythepafendopfhaa
open Go.RowKit
set_option linter.unusedVariables false

section
variable {P : Program} {ops : Array Oper} {rest : List Oper} {o : Oper} {a a2 : Act} {w0 w : World} {l l' : Ents} {Q : Exit → Act → World → Prop}
theorem ldA (H : Hid (Hp w0 w l)) {t T : TypeId} {p : Operand} {b k n : Nat} {cs ds : List Value} (hK : wpList P ops Q rest a2 w) (ho : o.op = .load t p := by rfl) (hg : Region.wanted o (yielded ops a.tmps) = true := by first | exact wanted_none rfl | exact wanted_some rfl rfl) (hT : RowT P t n := by first | exact rRat | exact rSpan | exact rPose | exact rFrame | exact rVec | exact rTurn | exact rBox | exact rSlot | exact rWay) (hp : a.eval p = .pointer (some ⟨b, k, none⟩) := by rfl)
    (hm : (b, T, cs) ∈ l := by repeat (first | exact List.Mem.head _ | refine List.Mem.tail _ ?_ | assumption)) (hx : (cs.drop k).take n = ds := by (simp only [List.drop, List.take]; rfl)) (hl : ds.length = n := by rfl) (hn : a.put o.dst (.agg ds.toArray) = a2 := by (simp only [Act.put, List.setIfInBounds_toArray, List.set_cons_succ, List.set_cons_zero]; rfl)) : wpList P ops Q (o :: rest) a w :=
  wpList_loadH H ho hg hT hp hm hx hl (by rw [hn]; exact hK)
theorem ld1A (H : Hid (Hp w0 w l)) {t T : TypeId} {p : Operand} {b k : Nat} {cs : List Value} {v : Value} (hK : wpList P ops Q rest a2 w) (ho : o.op = .load t p := by rfl) (hg : Region.wanted o (yielded ops a.tmps) = true := by first | exact wanted_none rfl | exact wanted_some rfl rfl) (hT : ∃ d, P.underlying t = some d ∧ d.isRow = false := by first | exact kBool | exact kStr | exact kInt | exact kStm) (hp : a.eval p = .pointer (some ⟨b, k, none⟩) := by rfl)
    (hm : (b, T, cs) ∈ l := by repeat (first | exact List.Mem.head _ | refine List.Mem.tail _ ?_ | assumption)) (hx : cs[k]? = some v := by rfl) (hn : a.put o.dst v = a2 := by (simp only [Act.put, List.setIfInBounds_toArray, List.set_cons_succ, List.set_cons_zero]; rfl)) : wpList P ops Q (o :: rest) a w :=
  wpList_loadH1 H ho hg hT hp hm hx (by rw [hn]; exact hK)
theorem stA (H : Hid (Hp w0 w l)) {t T : TypeId} {p x : Operand} {b k n : Nat} {cs vs ds : List Value} (hK : ∀ W', Hid (Hp w0 W' l') → wpList P ops Q rest a W') (ho : o.op = .store t p x := by rfl) (hg : o.guard = none := by rfl) (hd : o.dst = none := by rfl) (hT : RowT P t n := by first | exact rRat | exact rSpan | exact rPose | exact rFrame | exact rVec | exact rTurn | exact rBox | exact rSlot | exact rWay) (hp : a.eval p = .pointer (some ⟨b, k, none⟩) := by rfl) (hx : a.eval x = .agg vs.toArray := by rfl)
    (hu : Upd l b T cs ds l' := by repeat (first | apply Upd.head | apply Upd.tail | assumption)) (hl : vs.length = n := by rfl) (hc : cs.take k ++ vs ++ cs.drop (k + n) = ds := by (simp only [List.drop, List.take, List.nil_append, List.cons_append]; rfl)) (hk : k + n ≤ cs.length := by exact Nat.le_of_ble_eq_true rfl) (h1 : vs.all (·.oneCell') = true := by rfl) : wpList P ops Q (o :: rest) a w :=
  wpList_storeH H ho hg hd hT hp hx hu hl hc hk h1 hK
theorem st1A (H : Hid (Hp w0 w l)) {t T : TypeId} {p x : Operand} {b k : Nat} {cs ds : List Value} {v : Value} (hK : ∀ W', Hid (Hp w0 W' l') → wpList P ops Q rest a W') (ho : o.op = .store t p x := by rfl) (hg : o.guard = none := by rfl) (hd : o.dst = none := by rfl) (hT : (P.info? t).map (·.size) = some 1 := by first | exact sBool | exact sStr | exact sInt | exact sStm) (hp : a.eval p = .pointer (some ⟨b, k, none⟩) := by rfl) (hx : a.eval x = v := by rfl)
    (hu : Upd l b T cs ds l' := by repeat (first | apply Upd.head | apply Upd.tail | assumption)) (hc : cs.set k v = ds := by (simp only [List.set_cons_succ, List.set_cons_zero]; rfl)) (hk : k < cs.length := by exact Nat.le_of_ble_eq_true rfl) (h1 : v.oneCell' = true := by rfl) (hv : v.cells = #[v] := by rfl) : wpList P ops Q (o :: rest) a w :=
  wpList_storeH1 H ho hg hd hT hp hx hu hc hk h1 hv hK
theorem bxA (H : Hid (Hp w0 w l)) {t : TypeId} {x : Operand} {d : Tmp} {v : Value} {cs : List Value} {a3 : Nat → Act} (hK : ∀ (b : Nat) W', Hid (Hp w0 W' ((b, t, cs) :: l)) → wpList P ops Q rest (a3 b) W') (ho : o.op = .box t x := by rfl) (hg : o.guard = none := by rfl) (hd : o.dst = some d := by rfl) (hx : a.eval x = v := by (go_simp; rfl)) (hc : v.cells = cs.toArray := by (simp only [Value.cells]; rfl))
    (hn : ∀ b, a.put (some d) (.pointer (some ⟨b, 0, none⟩)) = a3 b := by (intro b; simp only [Act.put, List.setIfInBounds_toArray, List.set_cons_succ, List.set_cons_zero]; rfl)) : wpList P ops Q (o :: rest) a w :=
  wpList_boxH H ho hg hd hx hc fun b W' h => by rw [hn]; exact hK b W' h
theorem alA (H : Hid (Hp w0 w l)) {t : TypeId} {d : Tmp} {z : Value} {cs : List Value} {a3 : Nat → Act} (hK : ∀ (b : Nat) W', Hid (Hp w0 W' ((b, t, cs) :: l)) → wpList P ops Q rest (a3 b) W') (ho : o.op = .alloc t := by rfl) (hg : o.guard = none := by rfl) (hd : o.dst = some d := by rfl) (hz : (P.info? t).bind (·.zero) = some z := by first | exact zRat | exact zSpan | exact zPose | exact zFrame | exact zVec | exact zTurn | exact zBox | exact zStm | exact zWay | exact zSlot) (hc : z.cells = cs.toArray := by (simp only [Value.cells]; rfl))
    (hn : ∀ b, a.put (some d) (.pointer (some ⟨b, 0, none⟩)) = a3 b := by (intro b; simp only [Act.put, List.setIfInBounds_toArray, List.set_cons_succ, List.set_cons_zero]; rfl)) : wpList P ops Q (o :: rest) a w :=
  wpList_allocH H ho hg hd hz hc fun b W' h => by rw [hn]; exact hK b W' h
theorem kldA (H : Hid (Hp w0 w l)) {R : Act → Prop} {t T : TypeId} {p : Operand} {b k n : Nat} {cs ds : List Value} (hK : wpKeep P ops w R rest a2) (ho : o.op = .load t p := by rfl) (hg : Region.wanted o (yielded ops a.tmps) = true := by first | exact wanted_none rfl | exact wanted_some rfl rfl) (hT : RowT P t n := by first | exact rRat | exact rSpan | exact rPose | exact rFrame | exact rVec | exact rTurn | exact rBox | exact rSlot | exact rWay) (hp : a.eval p = .pointer (some ⟨b, k, none⟩) := by rfl)
    (hm : (b, T, cs) ∈ l := by repeat (first | exact List.Mem.head _ | refine List.Mem.tail _ ?_ | assumption)) (hx : (cs.drop k).take n = ds := by (simp only [List.drop, List.take]; rfl)) (hl : ds.length = n := by rfl) (hn : a.put o.dst (.agg ds.toArray) = a2 := by (simp only [Act.put, List.setIfInBounds_toArray, List.set_cons_succ, List.set_cons_zero]; rfl)) : wpKeep P ops w R (o :: rest) a :=
  wpK_loadH H ho hg hT hp hm hx hl (by rw [hn]; exact hK)
theorem kld1A (H : Hid (Hp w0 w l)) {R : Act → Prop} {t T : TypeId} {p : Operand} {b k : Nat} {cs : List Value} {v : Value} (hK : wpKeep P ops w R rest a2) (ho : o.op = .load t p := by rfl) (hg : Region.wanted o (yielded ops a.tmps) = true := by first | exact wanted_none rfl | exact wanted_some rfl rfl) (hT : ∃ d, P.underlying t = some d ∧ d.isRow = false := by first | exact kBool | exact kStr | exact kInt | exact kStm) (hp : a.eval p = .pointer (some ⟨b, k, none⟩) := by rfl)
    (hm : (b, T, cs) ∈ l := by repeat (first | exact List.Mem.head _ | refine List.Mem.tail _ ?_ | assumption)) (hx : cs[k]? = some v := by rfl) (hn : a.put o.dst v = a2 := by (simp only [Act.put, List.setIfInBounds_toArray, List.set_cons_succ, List.set_cons_zero]; rfl)) : wpKeep P ops w R (o :: rest) a :=
  wpK_loadH1 H ho hg hT hp hm hx (by rw [hn]; exact hK)
theorem kskA {R : Act → Prop} {i : Nat} {b : Bool} (hK : wpKeep P ops w R rest a2) (h : o.guard = some (i, b) := by rfl) (hy : yielded ops a.tmps i = some (!b) := by rfl) (hn : a.put o.dst undef = a2 := by (simp only [Act.put, List.setIfInBounds_toArray, List.set_cons_succ, List.set_cons_zero]; rfl)) : wpKeep P ops w R (o :: rest) a :=
  wpK_skip h hy (by rw [hn]; exact hK)
end
end Go.Proofs.Ythepafendopfhaa
