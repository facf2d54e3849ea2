/- The blocks of a call as one list: every operation on structs is one law over it, in a plain region and in one that draws its order. No program but for the library's table. · wp_region_newput over the list of the call's blocks. No program. · wp_region_uni over the list of the call's blocks. No program. · Slices that grow, over the list of the call's blocks. No program. · Rows of structs read element by element: no walk. Printed by gen/clk.py. · As Uni and HeapU, with a further kind of operation: it reads or calls, leaves all as it is, and yields a value that is known ahead, in every world in which what lay there is as it was: it may change places with the making of a block. No program. · As UniR, with two further kinds of operation: c v is pure, its value known ahead, and may stand anywhere; x changes the blocks in any way (append) and waits for all others but c. A further block, of any kind, stays. No program. · A block of any kind (a map) beside the list of blocks: the laws that change blocks. No walk. · A region that draws its order and calls what changes one known block (a stream of numbers): the state is the list of the call's own blocks. Kinds: p (reads, calls, computes: over blocks that do not change), a (makes a block), s (changes a known block, and may yield a value). Printed by gen/unv.py. · The laws over the list of blocks, their small premises left to be found where they are used. · A region that draws, walked up to a run of skipped operations, and behind it: no goal is met whose head is skipped. No program. · A stream of numbers among the call's own blocks: what Next yields and leaves, as functions; gantmake.Of as a rational number. · A region that draws its order, over the list of the call's own blocks. Kinds: c v yields a value known ahead and changes nothing (it may look at blocks l0 that stay); a makes a block; y runs on the blocks there are, whatever else is there, and leaves others. An operation y may stand before or behind any c, and behind a later a. No program. -/
import Derived.Test.YtaiokjhjakdhaaaGreatDoorPb7
import Derived.Test.YtaiokjhjakdhaaaGreatDoorPb18
import Derived.Test.YtaiokjhjakdhaaaGreatDoorPb5
import Derived.Test.YtaiokjhjakdhaaaGreatDoorPb8
import Derived.Test.YtaiokjhjakdhaaaGreatDoorPb19
import Derived.Test.YtaiokjhjakdhaaaGreatDoorPb4
import Derived.Test.YtaiokjhjakdhaaaGreatDoorPb10
namespace Go.Proofs.YtaiokjhjakdhaaaGreatDoor
open Go.RowKit
set_option linter.unusedVariables false

abbrev Ents := List (Nat × TypeId × List Value)
/-- The call's own blocks; all that was there is as it was; the library's table is there. -/
structure Hp (w0 w : World) (l : Ents) : Prop where
  blk : ∀ x ∈ l, w0.heap.size ≤ x.1 ∧ Blk w x.1 x.2.1 x.2.2.toArray
  nd : (l.map (·.1)).Nodup
  bel : Below w0.heap.size w0 w
  t0 : Tb w0
theorem Hp.tb {w0 w : World} {l : Ents} (h : Hp w0 w l) : Tb w := h.t0.below h.bel
theorem Hp.tbx {w0 w : World} {l : Ents} (h : Hp w0 w l) (s : Ext w) : Tb s.to := h.tb.below s.h
theorem Hp.start {w : World} (h : Tb w) : Hp w w [] := ⟨(fun _ h => by cases h), List.Pairwise.nil, Below.refl _ _, h⟩
theorem Hp.go {w0 w w' : World} {l : Ents} (h : Hp w0 w l) (hb : Below w.heap.size w w') : Hp w0 w' l :=
  ⟨fun x hx => ⟨(h.blk x hx).1, (h.blk x hx).2.below hb (h.blk x hx).2.lt⟩, h.nd, h.bel.trans (hb.mono h.bel.size), h.t0⟩
theorem Hp.lt {w0 w : World} {l : Ents} (h : Hp w0 w l) {x : Nat × TypeId × List Value} (hx : x ∈ l) : x.1 < w.heap.size := (h.blk x hx).2.lt
theorem Hp.fresh {w0 w w' : World} {l : Ents} (h : Hp w0 w l) (hb : Below w.heap.size w w') {b : Nat} {t : TypeId} {cs : List Value} (hg : w.heap.size ≤ b) (hk : Blk w' b t cs.toArray) : Hp w0 w' ((b, t, cs) :: l) := by
  refine ⟨fun x hx => ?_, ?_, (h.go hb).bel, h.t0⟩
  · rcases List.mem_cons.1 hx with rfl | hx
    · exact ⟨Nat.le_trans h.bel.size hg, hk⟩
    · exact (h.go hb).blk x hx
  · rw [List.map_cons, List.nodup_cons]
    refine ⟨fun hm => ?_, h.nd⟩
    obtain ⟨x, hx, he⟩ := List.mem_map.1 hm
    have h1 := h.lt hx
    have h2 : x.1 = b := he
    omega
/-- One block's cells are others. -/
inductive Upd : Ents → Nat → TypeId → List Value → List Value → Ents → Prop
  | head {b : Nat} {T : TypeId} {cs ds : List Value} {l : Ents} : Upd ((b, T, cs) :: l) b T cs ds ((b, T, ds) :: l)
  | tail {b : Nat} {T : TypeId} {cs ds : List Value} {l l' : Ents} {x : Nat × TypeId × List Value} (h : Upd l b T cs ds l') : Upd (x :: l) b T cs ds (x :: l')
theorem Upd.mem {l l' : Ents} {b : Nat} {T : TypeId} {cs ds : List Value} (h : Upd l b T cs ds l') : (b, T, cs) ∈ l := by
  induction h with
  | head => exact .head _
  | tail _ ih => exact .tail _ ih
theorem Upd.fst {l l' : Ents} {b : Nat} {T : TypeId} {cs ds : List Value} (h : Upd l b T cs ds l') : l'.map (·.1) = l.map (·.1) := by
  induction h with
  | head => rfl
  | tail _ ih => rw [List.map_cons, List.map_cons, ih]
theorem Upd.all {l l' : Ents} {b : Nat} {T : TypeId} {cs ds : List Value} (h : Upd l b T cs ds l') {p q : Nat × TypeId × List Value → Prop} (hn : (l.map (·.1)).Nodup) (ho : ∀ x ∈ l, x.1 ≠ b → p x → q x) (hq : q (b, T, ds)) (hp : ∀ x ∈ l, p x) : ∀ x ∈ l', q x := by
  induction h with
  | head =>
    rw [List.map_cons, List.nodup_cons] at hn
    intro x hx
    rcases List.mem_cons.1 hx with rfl | hx
    · exact hq
    · exact ho x (.tail _ hx) (fun e => hn.1 (by rw [← e]; exact List.mem_map.2 ⟨x, hx, rfl⟩)) (hp x (.tail _ hx))
  | tail h ih =>
    rename_i y
    rw [List.map_cons, List.nodup_cons] at hn
    intro x hx
    rcases List.mem_cons.1 hx with rfl | hx
    · refine ho _ (.head _) (fun e => hn.1 ?_) (hp _ (.head _))
      rw [e]
      exact List.mem_map.2 ⟨_, h.mem, rfl⟩
    · exact ih hn.2 (fun x hx => ho x (.tail _ hx)) hq (fun x hx => hp x (.tail _ hx)) x hx
theorem Hp.stored {w0 w w' : World} {l l' : Ents} {b : Nat} {T : TypeId} {cs ds : List Value} (h : Hp w0 w l) (hu : Upd l b T cs ds l') (hz : BelowZ b w w') (hk : Blk w' b T ds.toArray) : Hp w0 w' l' := by
  have hb := (h.blk _ hu.mem).1
  refine ⟨?_, by rw [hu.fst]; exact h.nd, hz.below h.bel hb h.bel.size, h.t0⟩
  exact hu.all (p := fun x => w0.heap.size ≤ x.1 ∧ Blk w x.1 x.2.1 x.2.2.toArray) (q := fun x => w0.heap.size ≤ x.1 ∧ Blk w' x.1 x.2.1 x.2.2.toArray) h.nd (fun x hx hne hp => ⟨hp.1, hz.blk hp.2 hne⟩) ⟨hb, hk⟩ h.blk
theorem Hp.get {w0 w : World} {l : Ents} (h : Hp w0 w l) {b : Nat} {T : TypeId} {cs : List Value} (hm : (b, T, cs) ∈ l) : Hid (Blk w b T cs.toArray) := (h.blk _ hm).2

section
variable {P : Program} {ops : Array Oper} {rest : List Oper} {o : Oper} {a : Act} {w0 w : World} {l l' : Ents} {Q : Exit → Act → World → Prop}
theorem wpList_loadH (H : Hid (Hp w0 w l)) {t T : TypeId} {p : Operand} {b k n : Nat} {cs ds : List Value} (ho : o.op = .load t p) (hg : Region.wanted o (yielded ops a.tmps) = true) (hT : RowT P t n) (hp : a.eval p = .pointer (some ⟨b, k, none⟩))
    (hm : (b, T, cs) ∈ l) (hx : (cs.drop k).take n = ds) (hl : ds.length = n) (hK : wpList P ops Q rest (a.put o.dst (.agg ds.toArray)) w) : wpList P ops Q (o :: rest) a w :=
  wpList_loadB ho hg hT hp (H.out.get hm) (by simpa using hx) hl hK
theorem wpList_loadH1 (H : Hid (Hp w0 w l)) {t T : TypeId} {p : Operand} {b k : Nat} {cs : List Value} {v : Value} (ho : o.op = .load t p) (hg : Region.wanted o (yielded ops a.tmps) = true) (hT : ∃ d, P.underlying t = some d ∧ d.isRow = false) (hp : a.eval p = .pointer (some ⟨b, k, none⟩))
    (hm : (b, T, cs) ∈ l) (hx : cs[k]? = some v) (hK : wpList P ops Q rest (a.put o.dst v) w) : wpList P ops Q (o :: rest) a w :=
  wpList_loadC ho hg hT hp (H.out.get hm) (by simpa using hx) hK
theorem wpList_storeH (H : Hid (Hp w0 w l)) {t T : TypeId} {p x : Operand} {b k n : Nat} {cs vs ds : List Value} (ho : o.op = .store t p x) (hg : o.guard = none) (hd : o.dst = none) (hT : RowT P t n) (hp : a.eval p = .pointer (some ⟨b, k, none⟩)) (hx : a.eval x = .agg vs.toArray)
    (hu : Upd l b T cs ds l') (hl : vs.length = n) (hc : cs.take k ++ vs ++ cs.drop (k + n) = ds) (hk : k + n ≤ cs.length) (h1 : vs.all (·.oneCell') = true)
    (hK : ∀ W', Hid (Hp w0 W' l') → wpList P ops Q rest a W') : wpList P ops Q (o :: rest) a w :=
  wpList_storeB ho hg hd hT hp hx (H.out.get hu.mem) hl (by simpa using hk) h1 (by simpa using hc) fun W' hz hb => hK W' (H.out.stored hu hz hb.out)
theorem wpList_storeH1 (H : Hid (Hp w0 w l)) {t T : TypeId} {p x : Operand} {b k : Nat} {cs ds : List Value} {v : Value} (ho : o.op = .store t p x) (hg : o.guard = none) (hd : o.dst = none) (hT : (P.info? t).map (·.size) = some 1) (hp : a.eval p = .pointer (some ⟨b, k, none⟩)) (hx : a.eval x = v)
    (hu : Upd l b T cs ds l') (hc : cs.set k v = ds) (hk : k < cs.length) (h1 : v.oneCell' = true) (hv : v.cells = #[v])
    (hK : ∀ W', Hid (Hp w0 W' l') → wpList P ops Q rest a W') : wpList P ops Q (o :: rest) a w :=
  wpList_storeC ho hg hd hT hp hx (H.out.get hu.mem) (by simpa using hk) h1 hv (by simpa using hc) fun W' hz hb => hK W' (H.out.stored hu hz hb.out)
theorem wpList_boxH (H : Hid (Hp w0 w l)) {t : TypeId} {x : Operand} {d : Tmp} {v : Value} {cs : List Value} (ho : o.op = .box t x) (hg : o.guard = none) (hd : o.dst = some d) (hx : a.eval x = v) (hc : v.cells = cs.toArray)
    (hK : ∀ (b : Nat) W', Hid (Hp w0 W' ((b, t, cs) :: l)) → wpList P ops Q rest (a.put (some d) (.pointer (some ⟨b, 0, none⟩))) W') : wpList P ops Q (o :: rest) a w :=
  wpList_newB (cs := cs) (t := t) hg hd (fun W => by
    unfold execOp
    simp only [ho, hx]
    simp [go_sem]
    show W.alloc (.cells v.cells t) = _
    rw [hc]) fun b W' h1 h2 h3 => hK b W' (H.out.fresh h2 h1 h3.out)
theorem wpList_allocH (H : Hid (Hp w0 w l)) {t : TypeId} {d : Tmp} {z : Value} {cs : List Value} (ho : o.op = .alloc t) (hg : o.guard = none) (hd : o.dst = some d) (hz : (P.info? t).bind (·.zero) = some z) (hc : z.cells = cs.toArray)
    (hK : ∀ (b : Nat) W', Hid (Hp w0 W' ((b, t, cs) :: l)) → wpList P ops Q rest (a.put (some d) (.pointer (some ⟨b, 0, none⟩))) W') : wpList P ops Q (o :: rest) a w := by
  have hi : ∃ i, P.info? t = some i ∧ i.zero = some z := by
    cases hq : P.info? t with
    | none => simp [hq] at hz
    | some i => exact ⟨i, rfl, by simpa [hq] using hz⟩
  obtain ⟨i, hi1, hi2⟩ := hi
  exact wpList_newB (cs := cs) (t := t) hg hd (fun W => by
    unfold execOp
    simp only [ho]
    simp [go_sem, zeroValue, typeInfo, hi1, hi2]
    show W.alloc (.cells z.cells t) = _
    rw [hc]) fun b W' h1 h2 h3 => hK b W' (H.out.fresh h2 h1 h3.out)

/-! A region that draws its order: the head -/
theorem wpK_step {R : Act → Prop}
    (h : ∀ K : Act → Prop, (∀ a, wpKeep P ops w R rest a → K a) → if Region.wanted o (yielded ops a.tmps) then (∃ v, (∀ s : Ext w, Oper.quietUpon P (fun w'' => Below s.to.heap.size s.to w'') s.to v ((execOp a.eval o).run P s.to)) ∧ K (a.put o.dst v)) else K (a.put o.dst undef)) : wpKeep P ops w R (o :: rest) a := h _ (fun _ h => h)
theorem wpK_loadH (H : Hid (Hp w0 w l)) {R : Act → Prop} {t T : TypeId} {p : Operand} {b k n : Nat} {cs ds : List Value} (ho : o.op = .load t p) (hg : Region.wanted o (yielded ops a.tmps) = true) (hT : RowT P t n) (hp : a.eval p = .pointer (some ⟨b, k, none⟩))
    (hm : (b, T, cs) ∈ l) (hx : (cs.drop k).take n = ds) (hl : ds.length = n) (hK : wpKeep P ops w R rest (a.put o.dst (.agg ds.toArray))) : wpKeep P ops w R (o :: rest) a :=
  wpKeep_loadB ho hg hT hp (H.out.get hm) (by simpa using hx) hl hK
theorem run_loadC {t T : TypeId} {b k : Nat} {cs : Array Value} {v : Value} (hT : ∃ d, P.underlying t = some d ∧ d.isRow = false) (h : Blk w b T cs) (hx : cs[k]? = some v) : (Instr.loadAt t (.pointer (some ⟨b, k, none⟩))).run P w = .ok v w := by
  obtain ⟨d, h1, h2⟩ := hT
  have hc : w.cell? ⟨b, k, none⟩ = some v := by rw [h.cell]; exact hx
  have hagg : (isAgg t).run P w = .ok false w := by
    unfold isAgg
    rw [Sem.run_bind, run_underlying h1 w]
    cases d <;> simp_all
  simp only [Instr.loadAt, Instr.sureAddr, loadVar, Sem.run_bind, Sem.run_pure, Result.andThen_ok, hagg]
  simp [hc, go_sem]
theorem wpK_loadH1 (H : Hid (Hp w0 w l)) {R : Act → Prop} {t T : TypeId} {p : Operand} {b k : Nat} {cs : List Value} {v : Value} (ho : o.op = .load t p) (hg : Region.wanted o (yielded ops a.tmps) = true) (hT : ∃ d, P.underlying t = some d ∧ d.isRow = false) (hp : a.eval p = .pointer (some ⟨b, k, none⟩))
    (hm : (b, T, cs) ∈ l) (hx : cs[k]? = some v) (hK : wpKeep P ops w R rest (a.put o.dst v)) : wpKeep P ops w R (o :: rest) a := by
  unfold wpKeep
  rw [if_pos hg]
  refine ⟨v, fun s => ?_, hK⟩
  have hb : Blk s.to b T cs.toArray := (H.out.get hm).out.below s.h (H.out.get hm).out.lt
  have hr := run_loadC (P := P) (t := t) (k := k) hT hb (by simpa using hx)
  unfold keepsAt execOp
  simp only [ho, hp, hr, Sem.run_bind, Sem.run_pure, Result.andThen_ok]
  exact ⟨rfl, rfl⟩
theorem wpQuiet_of_keep {R : Act → Prop} : ∀ (l : List Oper) (a : Act), wpKeep P ops w R l a → wpQuiet P ops (fun w' => ∃ s : Ext w, w' = s.to) R l a
  | [], a, h => h
  | o :: rest, a, h => by
    unfold wpKeep at h
    unfold wpQuiet
    split
    · rename_i hw
      rw [if_pos hw] at h
      obtain ⟨v, h1, h2⟩ := h
      refine ⟨v, ?_, wpQuiet_of_keep rest _ h2⟩
      rintro _ ⟨s, rfl⟩
      exact quietUpon_mono (fun w' hb => ⟨⟨w', s.h.trans (hb.mono s.h.size)⟩, rfl⟩) (h1 s)
    · rename_i hw
      rw [if_neg hw] at h
      exact wpQuiet_of_keep rest _ h
/-- All operations read or call. -/
theorem wp_region_E {id : Nat} {ol : List Oper} (H : Hid (Hp w0 w l)) (hm : P.follows .mixedOrders = true) (hB : Region.lexB .any ol.toArray = true)
    (h : wpKeep P ol.toArray w (fun a' => ∀ W, Hid (Hp w0 W l) → Q .normal a' W) ol a) : (Code.region id ol.toArray true).wp P Q a w := by
  refine wp_region_ext hm hB (wpQuiet_of_keep ol a ?_)
  have mono : ∀ (l' : List Oper) (a : Act) {R R' : Act → Prop}, (∀ a, R a → R' a) → wpKeep P ol.toArray w R l' a → wpKeep P ol.toArray w R' l' a := by
    intro l'
    induction l' with
    | nil => intro a R R' hR h; exact hR _ h
    | cons o r ih =>
      intro a R R' hR h
      unfold wpKeep at h ⊢
      split
      · rename_i hw
        rw [if_pos hw] at h
        obtain ⟨v, h1, h2⟩ := h
        exact ⟨v, h1, ih _ hR h2⟩
      · rename_i hw
        rw [if_neg hw] at h
        exact ih _ hR h
  refine mono ol a (fun a' h1 w' hw' => ?_) h
  obtain ⟨s, rfl⟩ := hw'
  exact h1 _ (H.out.go s.h)
/-! .. with a store that floats -/
/-- The store that floats writes a whole struct. -/
structure StoreOK (P : Program) (os : Oper) (a : Act) (z n : Nat) (vs : List Value) : Prop where
  op : ∃ t p x, os.op = .store t p x ∧ RowT P t n ∧ a.eval p = .pointer (some ⟨z, 0, none⟩) ∧ a.eval x = .agg vs.toArray
  g : os.guard = none
  d : os.dst = none
  l : vs.length = n
  o : vs.all (·.oneCell') = true
end

/-! Which operation stands at the head: asked before a law is tried, so that what does not fit fails at once -/
section
variable {P : Program} {ops : Array Oper} {rest : List Oper} {o : Oper} {a : Act} {w : World} {Q : Exit → Act → World → Prop}
variable {d : Option Tmp} {ty : TypeId} {po : String} {af : Array Edge} {g : Option (Nat × Bool)}
theorem isLoad {t : TypeId} {p : Operand} (h : wpList P ops Q (⟨d, .load t p, ty, po, af, g⟩ :: rest) a w) : wpList P ops Q (⟨d, .load t p, ty, po, af, g⟩ :: rest) a w := h
theorem isStore {t : TypeId} {p x : Operand} (h : wpList P ops Q (⟨d, .store t p x, ty, po, af, g⟩ :: rest) a w) : wpList P ops Q (⟨d, .store t p x, ty, po, af, g⟩ :: rest) a w := h
theorem isBox {t : TypeId} {x : Operand} (h : wpList P ops Q (⟨d, .box t x, ty, po, af, g⟩ :: rest) a w) : wpList P ops Q (⟨d, .box t x, ty, po, af, g⟩ :: rest) a w := h
theorem isAlloc {t : TypeId} (h : wpList P ops Q (⟨d, .alloc t, ty, po, af, g⟩ :: rest) a w) : wpList P ops Q (⟨d, .alloc t, ty, po, af, g⟩ :: rest) a w := h
theorem kLoad {R : Act → Prop} {t : TypeId} {p : Operand} (h : wpKeep P ops w R (⟨d, .load t p, ty, po, af, g⟩ :: rest) a) : wpKeep P ops w R (⟨d, .load t p, ty, po, af, g⟩ :: rest) a := h
theorem kCons {R : Act → Prop} (h : wpKeep P ops w R (o :: rest) a) : wpKeep P ops w R (o :: rest) a := h
theorem wanted_none {y : Nat → Option Bool} (h : o.guard = none) : Region.wanted o y = true := by simp [Region.wanted, h]
end

/-! The results -/
section
variable {P : Program} {fn : Func} {tmps : Array Value} {w0 w : World} {l : Ents}
theorem results_H (H : Hid (Hp w0 w l)) {r : Nat} {t T : TypeId} {b n : Nat} {cs : List Value} (hr : fn.results = #[.cell r t]) (hT : RowT P t n) (hp : tmps.getD r undef = .pointer (some ⟨b, 0, none⟩)) (hm : (b, T, cs) ∈ l) (hl : cs.length = n) :
    (results fn tmps).run P w = .ok (.agg cs.toArray) w := results_B hr hp (H.out.get hm) hT (by simpa using hl)
theorem results_Hv (H : Hid (Hp w0 w l)) {r k : Nat} {t T : TypeId} {b n : Nat} {cs : List Value} {v : Value} (hr : fn.results = #[.cell r t, .tmp k]) (hT : RowT P t n) (hp : tmps.getD r undef = .pointer (some ⟨b, 0, none⟩)) (hm : (b, T, cs) ∈ l) (hv : tmps.getD k undef = v) (hl : cs.length = n) :
    (results fn tmps).run P w = .ok (.tuple #[.agg cs.toArray, v]) w := results_Bv hr hp hv (H.out.get hm) hT (by simpa using hl)
end
end Go.Proofs.YtaiokjhjakdhaaaGreatDoor

namespace Go.Proofs.YtaiokjhjakdhaaaGreatDoor
open Go.RowKit
set_option linter.unusedVariables false
end Go.Proofs.YtaiokjhjakdhaaaGreatDoor

namespace Go.Proofs.YtaiokjhjakdhaaaGreatDoor
open Go.RowKit
set_option linter.unusedVariables false

theorem Hp.drop {w0 w : World} {l : Ents} {x : Nat × TypeId × List Value} (h : Hp w0 w (x :: l)) : Hp w0 w l := ⟨fun y hy => h.blk y (.tail _ hy), (List.nodup_cons.1 h.nd).2, h.bel, h.t0⟩
def ovOf : Ents → Ov
  | [] => fun _ => none
  | (g, t, cs) :: l => (ovOf l).put g (.cells cs.toArray t (0, 0))
theorem ovOf_some {l : Ents} {k : Nat} {b : Obj} (h : ovOf l k = some b) : ∃ x ∈ l, x.1 = k := by
  induction l with
  | nil => cases h
  | cons x l ih =>
    obtain ⟨g, t, cs⟩ := x
    unfold ovOf Ov.put at h
    by_cases hk : k = g
    · exact ⟨_, .head _, hk.symm⟩
    · rw [if_neg hk] at h
      obtain ⟨x, hx, he⟩ := ih h
      exact ⟨x, .tail _ hx, he⟩
theorem ovOf_mem {l : Ents} (hn : (l.map (·.1)).Nodup) {x : Nat × TypeId × List Value} (hx : x ∈ l) : ovOf l x.1 = some (.cells x.2.2.toArray x.2.1 (0, 0)) := by
  induction l with
  | nil => cases hx
  | cons y l ih =>
    obtain ⟨g, t, cs⟩ := y
    rw [List.map_cons, List.nodup_cons] at hn
    unfold ovOf Ov.put
    rcases List.mem_cons.1 hx with rfl | hx
    · rw [if_pos rfl]
    · rw [if_neg (fun e => hn.1 (by rw [← e]; exact List.mem_map.2 ⟨x, hx, rfl⟩))]
      exact ih hn.2 hx
theorem ovOf_mem_b {l : Ents} (hn : (l.map (·.1)).Nodup) {k : Nat} {b : Obj} (h : ovOf l k = some b) : ∃ x ∈ l, x.1 = k ∧ b = .cells x.2.2.toArray x.2.1 (0, 0) := by
  obtain ⟨x, hx, rfl⟩ := ovOf_some h
  have := ovOf_mem hn hx
  rw [h] at this
  injection this with this
  exact ⟨x, hx, rfl, this⟩
end Go.Proofs.YtaiokjhjakdhaaaGreatDoor

namespace Go.Proofs.YtaiokjhjakdhaaaGreatDoor
open Go.RowKit
set_option linter.unusedVariables false

theorem Hp.perm {w0 w : World} {l l2 : Ents} (h : Hp w0 w l) (hp : l.Perm l2) : Hp w0 w l2 := ⟨fun x hx => h.blk x (hp.mem_iff.2 hx), (hp.map (·.1)).nodup_iff.1 h.nd, h.bel, h.t0⟩
theorem Hp.sub {w0 w : World} {l l2 : Ents} (h : Hp w0 w l) (hs : l2.Sublist l) : Hp w0 w l2 := ⟨fun x hx => h.blk x (hs.subset hx), (hs.map (·.1)).nodup h.nd, h.bel, h.t0⟩
theorem Upd.mid (X : Ents) {T : Ents} {g : Nat} {e : TypeId} {cs ds : List Value} : Upd (X ++ (g, e, cs) :: T) g e cs ds (X ++ (g, e, ds) :: T) := by
  induction X with
  | nil => exact .head
  | cons x X ih => exact .tail ih
/-- The block of a slice's row, if it has one. -/
def rowE (v : Value) (e : TypeId) (cur : List Value) : Ents :=
  match v with
  | .slice (some p) _ _ => [(p.block, e, cur)]
  | _ => []
/-- A slice of n elements, xs cell by cell; cur is its whole row. -/
structure RowV (size : Nat) (v : Value) (n : Nat) (xs cur : List Value) : Prop where
  len : xs.length = n * size
  or_ : (v = .slice none 0 0 ∧ n = 0) ∨ ∃ g cap, v = .slice (some ⟨g, 0, none⟩) n cap ∧ n ≤ cap ∧ cap ≤ maxLen ∧ cur.length = cap * size ∧ cur.take (n * size) = xs
theorem RowV.nil (size : Nat) : RowV size (.slice none 0 0) 0 [] [] := ⟨by simp, .inl ⟨rfl, rfl⟩⟩
theorem Hp.cons {w0 w w' : World} {X T : Ents} {t : TypeId} {cs : List Value} (h : Hp w0 w (X ++ T)) (hb : Below w.heap.size w w') (hk : Blk w' w.heap.size t cs.toArray) : Hp w0 w' (X ++ (w.heap.size, t, cs) :: T) :=
  (h.fresh hb (Nat.le_refl _) hk).perm List.perm_middle.symm
/-- Of the blocks that there were only z has changed, or z is new; l' knows of no others than l did, but z. -/
structure Chg (w w' : World) (l l' : Ents) (z : Nat) : Prop where
  all : Below 0 w w'
  old : z = w.heap.size ∨ ∃ x ∈ l, x.1 = z
  lt : z < w'.heap.size
  keep : ∀ k, k < w.heap.size → k ≠ z → w'.heap[k]? = w.heap[k]?
  sub : ∀ x ∈ l', x.1 ≠ z → x ∈ l
section
variable {P : Program} {w0 w : World} {X T : Ents} {e : TypeId} {cur xs : List Value} {v : Value} {n : Nat}
theorem run_append_H (t ty : TypeId) (i : TypeInfo) (z : Value) (ht : P.underlying t = some (.slice e)) (hi : P.info? e = some i) (hz : i.zero = some z) (hzs : z.cells.size = i.size) (hsz : 0 < i.size)
    (H : Hp w0 w (X ++ (rowE v e cur ++ T))) (R : RowV i.size v n xs cur) (b m c : Nat) (news : List Value) (hl : news.length = m * i.size) (hnews : ∀ j u, news[j]? = some u → w.cell? ⟨b, j, none⟩ = some u) (h1 : ∀ u ∈ news, u.oneCell' = true)
    (hm : 0 < m) (h63 : n + m ≤ maxLen) (hbytes : (n + m) * i.bytes ≤ 140737488355328) :
    ∃ v' cur' w', (Builtin.append_ #[t, t] ty #[v, .slice (some ⟨b, 0, none⟩) m c]).run P w = .ok v' w' ∧ RowV i.size v' (n + m) (xs ++ news) cur' ∧ Hp w0 w' (X ++ (rowE v' e cur' ++ T)) ∧ ∃ z, Chg w w' (X ++ (rowE v e cur ++ T)) (X ++ (rowE v' e cur' ++ T)) z := by
  have hsmall : n + m ≤ 9223372036854775807 := by simp only [maxLen] at h63; omega
  have hlen : (xs ++ news).length = (n + m) * i.size := by rw [List.length_append, R.len, hl, Nat.add_mul]
  have hn' : ∀ j u, news[j]? = some u → w.cell? ((⟨b, 0, none⟩ : Addr).add j) = some u := fun j u hu => by rw [Addr.add_lit, Nat.zero_add]; exact hnews j u hu
  -- a new row
  have new : ∀ (old : Nat), (∀ k, X ++ T = k → Hp w0 w k) → ∃ cur' w', w' = w.drew.alloc (.cells (xs.toArray ++ news.toArray ++ Builtin.zeroCells z.cells (grownCap w (n + m) old e - (n + m))) e) ∧
      RowV i.size (.slice (some ⟨w.heap.size, 0, none⟩) (n + m) (grownCap w (n + m) old e)) (n + m) (xs ++ news) cur' ∧ Hp w0 w' (X ++ ((w.heap.size, e, cur') :: T)) ∧ Chg w w' (X ++ (rowE v e cur ++ T)) (X ++ ((w.heap.size, e, cur') :: T)) w.heap.size := fun old hX => by
    have hge := grownCap_ge w (n + m) old e
    have hcm : grownCap w (n + m) old e ≤ maxLen := grownCap_le_maxLen w (n + m) old e h63
    refine ⟨(xs.toArray ++ news.toArray ++ Builtin.zeroCells z.cells (grownCap w (n + m) old e - (n + m))).toList, _, rfl, ⟨hlen, .inr ⟨_, _, rfl, hge, hcm, ?_, ?_⟩⟩, ?_, ?_⟩
    · simp only [Array.length_toList, Array.size_append, List.size_toArray, size_zeroCells, hzs, R.len, hl, ← Nat.add_mul]
      congr 1
      omega
    · simp only [Array.toList_append, List.append_assoc]
      rw [← List.append_assoc, ← hlen]
      exact List.take_left
    rotate_left
    · have hb := ((Below.refl w.heap.size w).drew).alloc (Nat.le_refl _) (.cells (xs.toArray ++ news.toArray ++ Builtin.zeroCells z.cells (grownCap w (n + m) old e - (n + m))) e)
      have hk := Blk.new w.drew e (xs.toArray ++ news.toArray ++ Builtin.zeroCells z.cells (grownCap w (n + m) old e - (n + m)))
      refine ⟨hb.mono (Nat.zero_le _), .inl rfl, hk.lt, fun k hk _ => hb.block k hk, fun x hx hne => ?_⟩
      simp only [List.mem_append, List.mem_cons] at hx ⊢
      rcases hx with hx | rfl | hx
      · exact .inl hx
      · exact absurd rfl hne
      · exact .inr (.inr hx)
    · refine (hX _ rfl).cons (((Below.refl w.heap.size w).drew).alloc (Nat.le_refl _) _) ?_
      have := Blk.new w.drew e (xs.toArray ++ news.toArray ++ Builtin.zeroCells z.cells (grownCap w (n + m) old e - (n + m)))
      rw [Array.toArray_toList]
      exact this
  rcases R.or_ with ⟨rfl, rfl⟩ | ⟨g, cap, rfl, hnc, hcm, hcs, htake⟩
  · have hx : xs = [] := List.eq_nil_of_length_eq_zero (by simpa using R.len)
    subst hx
    have hr := run_append_nil (P := P) w t ty e i z ht hi hz ⟨b, 0, none⟩ m c news hl hn' (by omega) (by omega) (by have hb := hbytes; simp only [Nat.zero_add] at hb; omega)
    obtain ⟨cur', w', rfl, h2, h3, h4⟩ := new 0 (fun k hk => by subst hk; exact H)
    simp only [Nat.zero_add, List.nil_append, Array.empty_append] at h2 h3 h4 ⊢
    exact ⟨_, cur', _, hr, h2, h3, _, h4⟩
  · by_cases hroom : n + m ≤ cap
    · have hb : Blk w g e cur.toArray := (H.blk (g, e, cur) (by simp [rowE])).2
      have hfit : n * i.size + news.length ≤ cur.toArray.size := by simp only [List.size_toArray]; rw [hl, hcs, ← Nat.add_mul]; exact Nat.mul_le_mul_right _ hroom
      have hr := run_append_room (P := P) w t ty e i ht hi g n cap cur.toArray hb ⟨b, 0, none⟩ m c news hl hn' h1 hroom hfit
      refine ⟨_, (cur.toArray.toList.take (n * i.size) ++ news ++ cur.toArray.toList.drop (n * i.size + news.length)), _, hr, ⟨hlen, .inr ⟨g, cap, rfl, hroom, hcm, ?_, ?_⟩⟩, ?_, g, ?_⟩
      · simp only [List.size_toArray] at hfit
        simp only [List.length_append, List.length_take, List.length_drop]
        omega
      · show List.take _ _ = _
        rw [show cur.toArray.toList.take (n * i.size) = xs from htake, ← hlen]
        exact List.take_left
      · have hu : Upd (X ++ ([(g, e, cur)] ++ T)) g e cur (cur.toArray.toList.take (n * i.size) ++ news ++ cur.toArray.toList.drop (n * i.size + news.length)) (X ++ ([(g, e, cur.toArray.toList.take (n * i.size) ++ news ++ cur.toArray.toList.drop (n * i.size + news.length))] ++ T)) := Upd.mid X
        exact H.stored hu ⟨⟨rfl, rfl, rfl, by simp, fun k hk => absurd hk (by omega)⟩, fun k _ hk => setRow_other w g k _ hk⟩ (setRow_heap w g cur.toArray _ e _ hb)
      · refine ⟨⟨rfl, rfl, rfl, by simp, fun k hk => absurd hk (by omega)⟩, .inr ⟨(g, e, cur), by simp [rowE], rfl⟩, by simpa using hb.lt, fun k _ hk => setRow_other w g k _ hk, fun x hx hne => ?_⟩
        simp only [rowE, List.mem_append, List.mem_singleton] at hx ⊢
        rcases hx with hx | rfl | hx
        · exact .inl hx
        · exact absurd rfl hne
        · exact .inr (.inr hx)
    · have hb : Blk w g e cur.toArray := (H.blk (g, e, cur) (by simp [rowE])).2
      have holds : ∀ j u, xs[j]? = some u → w.cell? ((⟨g, 0, none⟩ : Addr).add j) = some u := fun j u hu => by
        rw [Addr.add_lit, Nat.zero_add, hb.cell]
        rw [← htake, List.getElem?_take] at hu
        split at hu
        · simpa using hu
        · cases hu
      have hr := run_append_grow (P := P) w t ty e i z ht hi hz ⟨g, 0, none⟩ n cap xs R.len holds ⟨b, 0, none⟩ m c news hl hn' (by omega) (by omega) (growslice_fits (by omega) hbytes)
      obtain ⟨cur', w', rfl, h2, h3, h4⟩ := new cap (fun k hk => by
        subst hk
        exact H.sub (List.Sublist.append (List.Sublist.refl _) (List.sublist_append_right _ _)))
      exact ⟨_, cur', _, hr, h2, h3, _, h4⟩
/-- What a type's row in the table says. -/
structure InfoT (P : Program) (e : TypeId) (size bytes : Nat) : Prop where
  h : ∃ i z, P.info? e = some i ∧ i.zero = some z ∧ i.size = size ∧ i.bytes = bytes ∧ z.cells.size = size
/-- append of what lies in a block of the call's own (a literal's, say) to a slice whose row is the call's own. -/
theorem wpList_appH {ops : Array Oper} {rest : List Oper} {o : Oper} {a : Act} {l : Ents} {Q : Exit → Act → World → Prop} {size bytes b m c : Nat} {t e2 : TypeId} {news : List Value} (X T : Ents) (H : Hid (Hp w0 w l)) (R : Hid (RowV size v n xs cur)) (hl : l = X ++ (rowE v e cur ++ T)) (I : InfoT P e size bytes) (hsz : 0 < size) (ht : P.underlying t = some (.slice e)) (hgd : o.guard = none) {s x : Operand}
    (ho : o.op = .call { callee := .builtin .append, args := #[s, x], argTypes := #[t, t] }) (hs : a.eval s = v) (hx : a.eval x = .slice (some ⟨b, 0, none⟩) m c) (hm : (b, e2, news) ∈ l) (hn : news.length = m * size) (h1 : news.all (·.oneCell') = true) (h0 : 0 < m) (h63 : n + m ≤ maxLen) (hb : (n + m) * bytes ≤ 140737488355328)
    (hK : ∀ v' cur' W', Hid (RowV size v' (n + m) (xs ++ news) cur') → Hid (Hp w0 W' (X ++ (rowE v' e cur' ++ T))) → wpList P ops Q rest (a.put o.dst v') W') : wpList P ops Q (o :: rest) a w := by
  subst hl
  obtain ⟨i, z, hi, hz, rfl, rfl, hzs⟩ := I.h
  have hk := (H.out.get hm).out
  obtain ⟨v', cur', w', hr, h2, h3, _⟩ := run_append_H (P := P) t o.type i z ht hi hz hzs hsz H.out R.out b m c news hn (fun j u hu => by rw [hk.cell]; simpa using hu) (fun u hu => List.all_eq_true.1 h1 u hu) h0 h63 hb
  refine wpList_plain hgd fun _ hK2 => ?_
  unfold Oper.wp execOp
  simp only [ho, resolve, invoke, builtin, Sem.run_bind, Sem.run_pure, Result.andThen_ok, List.map_toArray, List.map_cons, List.map_nil, hs, hx, hr]
  exact hK2 _ _ (hK v' cur' w' (Lib.hid h2) (Lib.hid h3))
end
end Go.Proofs.YtaiokjhjakdhaaaGreatDoor

namespace Go.Proofs.YtaiokjhjakdhaaaGreatDoor
open Go.RowKit
set_option linter.unusedVariables false
set_option maxRecDepth 100000

theorem flat_take {α : Type} {enc : α → List Value} {k : Nat} (hk : ∀ x, (enc x).length = k) : ∀ {xs : List α} {j : Nat} {x : α}, xs[j]? = some x → ((flat enc xs).drop (k * j)).take k = enc x
  | [], j, x, h => by simp at h
  | y :: ys, 0, x, h => by
    have e : y = x := by simpa using h
    subst e
    show ((enc y ++ flat enc ys).drop (k * 0)).take k = enc y
    rw [Nat.mul_zero, List.drop_zero, ← hk y]
    exact List.take_left
  | y :: ys, j + 1, x, h => by
    have h2 : ys[j]? = some x := by simpa using h
    show ((enc y ++ flat enc ys).drop (k * (j + 1))).take k = enc x
    rw [show k * (j + 1) = (enc y).length + k * j by rw [hk, Nat.mul_succ]; omega, List.drop_length_add_append]
    exact flat_take hk h2
/-- An element of a row lies in the row's block. -/
theorem RowV.at_ {α : Type} {enc : α → List Value} {k n j : Nat} {v : Value} {xs : List α} {cur : List Value} {x : α} (hk : ∀ x, (enc x).length = k) (h : RowV k v n (flat enc xs) cur) (hx : xs[j]? = some x) (hp : 0 < k) : ∃ g cap, v = .slice (some ⟨g, 0, none⟩) n cap ∧ (cur.drop (k * j)).take k = enc x ∧ j < n := by
  have hl : xs.length * k = n * k := by rw [← flat_len hk xs]; exact h.len
  have hn : xs.length = n := Nat.eq_of_mul_eq_mul_right hp hl
  have hj : j < n := by rw [← hn]; exact (List.getElem?_eq_some_iff.1 hx).1
  rcases h.or_ with ⟨_, h0⟩ | ⟨g, cap, rfl, h1, h2, h3, h4⟩
  · omega
  · refine ⟨g, cap, rfl, ?_, hj⟩
    rw [← flat_take hk hx, ← h4, List.drop_take, List.take_take, Nat.min_eq_left]
    have : k * (j + 1) ≤ k * n := Nat.mul_le_mul_left k hj
    rw [Nat.mul_succ] at this
    rw [Nat.mul_comm n k]
    omega
end Go.Proofs.YtaiokjhjakdhaaaGreatDoor

namespace Go.Proofs.YtaiokjhjakdhaaaGreatDoor
open Go.RowKit
set_option linter.unusedVariables false

section
variable {P : Program} {ops : Array Oper} {md : Region.Mode} {w : World} {Z : Nat → Prop}
inductive KdR | q | p | a | s | r (v : Value)
/-! Every order -/
variable {kd : Nat → KdR} {N : Nat}
end

end Go.Proofs.YtaiokjhjakdhaaaGreatDoor

namespace Go.Proofs.YtaiokjhjakdhaaaGreatDoor
open Go.RowKit
set_option linter.unusedVariables false

theorem Ov.fin.real {U : Ov} (h : U.fin) (w : World) : ∃ W, U.ok w W := by
  obtain ⟨x, hx⟩ := h
  refine ⟨{ w with heap := Array.ofFn (n := w.heap.size + x) (fun k => match U k.1 with | some b => b | none => (w.heap[k.1]?).getD default) }, ⟨rfl, rfl, rfl, by simp, fun k hk => absurd hk (by omega)⟩, fun k hk hu => ?_, fun k b hu => ?_⟩
  · have hk2 : k < w.heap.size + x := by omega
    simp only [Array.getElem?_ofFn, hk2, dif_pos, hu]
    rw [Array.getElem?_eq_getElem hk]
    rfl
  · have hk2 : k < w.heap.size + x := by have := hx k b hu; omega
    simp only [Array.getElem?_ofFn, hk2, dif_pos, hu]
section
variable {P : Program} {ops : Array Oper} {md : Region.Mode} {w : World} {Z : Nat → Prop}
inductive KdX | q | p | a | s | r (v : Value) | c (v : Value) | x
/-! Every order -/
variable {kd : Nat → KdX} {N : Nat}
end

/-- A further block M, of any kind, that stays as it is. -/
structure Hm (w0 w : World) (M : Nat) (ob : Obj) (l : Ents) : Prop where
  hp : Hp w0 w l
  mp : w.heap[M]? = some ob
  out : ∀ x ∈ l, x.1 ≠ M
section
variable {P : Program} {ops : Array Oper} {rest : List Oper} {o : Oper} {a : Act} {w0 w : World} {l l' : Ents} {Q : Exit → Act → World → Prop} {kd : Nat → KdX} {k : Nat} {R : Act → Ents → Prop} {M : Nat} {ob : Obj}
/-- The list is a view of what is known. -/
structure VwX (w0 w : World) (M : Nat) (U : Ov) (l : Ents) : Prop where
  nd : (l.map (·.1)).Nodup
  at_ : ∀ x ∈ l, U x.1 = some (.cells x.2.2.toArray x.2.1 (0, 0))
  lo : ∀ k b, U k = some b → w0.heap.size ≤ k ∧ k ≠ M
end
end Go.Proofs.YtaiokjhjakdhaaaGreatDoor

namespace Go.Proofs.YtaiokjhjakdhaaaGreatDoor
open Go.RowKit
set_option linter.unusedVariables false
set_option maxRecDepth 100000

theorem InfoT.of {P : Program} {e : TypeId} {size bytes : Nat} {z : Value} (h1 : (P.info? e).bind (·.zero) = some z) (h2 : (P.info? e).map (fun i => (i.size, i.bytes)) = some (size, bytes)) (h3 : z.cells.size = size) : InfoT P e size bytes := by
  cases hi : P.info? e with
  | none => simp [hi] at h1
  | some i =>
    simp [hi] at h1 h2
    exact ⟨i, z, hi, h1, h2.1, h2.2, h3⟩
theorem RowV.shape {k n : Nat} {v : Value} {xs cur : List Value} (h : RowV k v n xs cur) : ∃ B c, v = .slice B n c ∧ c ≤ maxLen := by
  rcases h.or_ with ⟨rfl, rfl⟩ | ⟨g, cap, rfl, _, h2, _⟩
  · exact ⟨none, 0, rfl, by simp [maxLen]⟩
  · exact ⟨_, _, rfl, h2⟩
theorem RowV.len_ {α : Type} {enc : α → List Value} {k n : Nat} {v : Value} {xs : List α} {cur : List Value} (hk : ∀ x, (enc x).length = k) (h : RowV k v n (flat enc xs) cur) (hp : 0 < k) : xs.length = n :=
  Nat.eq_of_mul_eq_mul_right hp (by rw [← flat_len hk xs]; exact h.len)
section
variable {P : Program} {ops : Array Oper} {rest : List Oper} {o : Oper} {a a2 : Act} {w0 w : World} {l l' : Ents} {Q : Exit → Act → World → Prop} {M : Nat} {ob : Obj}
theorem isSlc {d : Option Tmp} {ty : TypeId} {po : String} {af : Array Edge} {g : Option (Nat × Bool)} {t : TypeId} {n : Nat} {ps : Array (Nat × Operand)} (h : wpList P ops Q (⟨d, .buildSlice t n ps, ty, po, af, g⟩ :: rest) a w) : wpList P ops Q (⟨d, .buildSlice t n ps, ty, po, af, g⟩ :: rest) a w := h
theorem isApp {d : Option Tmp} {ty : TypeId} {po : String} {af : Array Edge} {g : Option (Nat × Bool)} {c : Array Operand} {ts : Array TypeId} (h : wpList P ops Q (⟨d, .call { callee := .builtin .append, args := c, argTypes := ts }, ty, po, af, g⟩ :: rest) a w) : wpList P ops Q (⟨d, .call { callee := .builtin .append, args := c, argTypes := ts }, ty, po, af, g⟩ :: rest) a w := h
end
end Go.Proofs.YtaiokjhjakdhaaaGreatDoor

namespace Go.Proofs.YtaiokjhjakdhaaaGreatDoor
open Go.RowKit
set_option linter.unusedVariables false

theorem wanted_some {o : Oper} {y : Nat → Option Bool} {i : Nat} {b : Bool} (h : o.guard = some (i, b)) (hy : y i = some b) : Region.wanted o y = true := by simp [Region.wanted, h, hy]
theorem wpK_skip {P : Program} {ops : Array Oper} {w : World} {R : Act → Prop} {a : Act} {o : Oper} {rest : List Oper} {i : Nat} {b : Bool} (h : o.guard = some (i, b)) (hy : yielded ops a.tmps i = some (!b)) (hK : wpKeep P ops w R rest (a.put o.dst undef)) : wpKeep P ops w R (o :: rest) a := by
  unfold wpKeep
  rw [if_neg (by simp [Region.wanted, h, hy])]
  exact hK
/-- What is known of the call's own blocks. -/
abbrev Ow := Nat → Option (TypeId × List Value)
structure HU (w0 W : World) (U : Ow) : Prop where
  blk : ∀ k x, U k = some x → w0.heap.size ≤ k ∧ Blk W k x.1 x.2.toArray
  bel : Below w0.heap.size w0 W
  t0 : Tb w0
section
variable {P : Program} {ops : Array Oper} {md : Region.Mode} {w0 : World} {U0 : Ow}
section
variable {oi oj : Oper} {a : Act} {U : Ow} {K : Act → Ow → Prop}
theorem cells_inj {cs cs' : List Value} {t t' : TypeId} (h : Obj.cells cs.toArray t (0, 0) = Obj.cells cs'.toArray t' (0, 0)) : cs = cs' ∧ t = t' := by
  injection h with h1 h2
  exact ⟨by simpa using h1, h2⟩
end
/-! Every order -/
variable {kd : Nat → Kd} {N : Nat}
end

/-! Over the list of blocks -/
end Go.Proofs.YtaiokjhjakdhaaaGreatDoor

namespace Go.Proofs.YtaiokjhjakdhaaaGreatDoor
open Go.RowKit
set_option linter.unusedVariables false

section
variable {P : Program} {ops : Array Oper} {rest : List Oper} {o : Oper} {a a2 : Act} {w0 w : World} {l l' : Ents} {Q : Exit → Act → World → Prop}
theorem ldA (H : Hid (Hp w0 w l)) {t T : TypeId} {p : Operand} {b k n : Nat} {cs ds : List Value} (hK : wpList P ops Q rest a2 w) (ho : o.op = .load t p := by rfl) (hg : Region.wanted o (yielded ops a.tmps) = true := by first | exact wanted_none rfl | exact wanted_some rfl rfl) (hT : RowT P t n := by first | exact rRat | exact rSpan | exact rPose | exact rFrame | exact rVec | exact rTurn | exact rBox | exact rSlot | exact rWay) (hp : a.eval p = .pointer (some ⟨b, k, none⟩) := by rfl)
    (hm : (b, T, cs) ∈ l := by repeat (first | exact List.Mem.head _ | refine List.Mem.tail _ ?_ | assumption)) (hx : (cs.drop k).take n = ds := by (simp only [List.drop, List.take]; rfl)) (hl : ds.length = n := by rfl) (hn : a.put o.dst (.agg ds.toArray) = a2 := by (simp only [Act.put, List.setIfInBounds_toArray, List.set_cons_succ, List.set_cons_zero]; rfl)) : wpList P ops Q (o :: rest) a w :=
  wpList_loadH H ho hg hT hp hm hx hl (by rw [hn]; exact hK)
theorem ld1A (H : Hid (Hp w0 w l)) {t T : TypeId} {p : Operand} {b k : Nat} {cs : List Value} {v : Value} (hK : wpList P ops Q rest a2 w) (ho : o.op = .load t p := by rfl) (hg : Region.wanted o (yielded ops a.tmps) = true := by first | exact wanted_none rfl | exact wanted_some rfl rfl) (hT : ∃ d, P.underlying t = some d ∧ d.isRow = false := by first | exact kBool | exact kStr | exact kInt | exact kStm) (hp : a.eval p = .pointer (some ⟨b, k, none⟩) := by rfl)
    (hm : (b, T, cs) ∈ l := by repeat (first | exact List.Mem.head _ | refine List.Mem.tail _ ?_ | assumption)) (hx : cs[k]? = some v := by rfl) (hn : a.put o.dst v = a2 := by (simp only [Act.put, List.setIfInBounds_toArray, List.set_cons_succ, List.set_cons_zero]; rfl)) : wpList P ops Q (o :: rest) a w :=
  wpList_loadH1 H ho hg hT hp hm hx (by rw [hn]; exact hK)
theorem stA (H : Hid (Hp w0 w l)) {t T : TypeId} {p x : Operand} {b k n : Nat} {cs vs ds : List Value} (hK : ∀ W', Hid (Hp w0 W' l') → wpList P ops Q rest a W') (ho : o.op = .store t p x := by rfl) (hg : o.guard = none := by rfl) (hd : o.dst = none := by rfl) (hT : RowT P t n := by first | exact rRat | exact rSpan | exact rPose | exact rFrame | exact rVec | exact rTurn | exact rBox | exact rSlot | exact rWay) (hp : a.eval p = .pointer (some ⟨b, k, none⟩) := by rfl) (hx : a.eval x = .agg vs.toArray := by rfl)
    (hu : Upd l b T cs ds l' := by repeat (first | apply Upd.head | apply Upd.tail | assumption)) (hl : vs.length = n := by rfl) (hc : cs.take k ++ vs ++ cs.drop (k + n) = ds := by (simp only [List.drop, List.take, List.nil_append, List.cons_append]; rfl)) (hk : k + n ≤ cs.length := by exact Nat.le_of_ble_eq_true rfl) (h1 : vs.all (·.oneCell') = true := by rfl) : wpList P ops Q (o :: rest) a w :=
  wpList_storeH H ho hg hd hT hp hx hu hl hc hk h1 hK
theorem st1A (H : Hid (Hp w0 w l)) {t T : TypeId} {p x : Operand} {b k : Nat} {cs ds : List Value} {v : Value} (hK : ∀ W', Hid (Hp w0 W' l') → wpList P ops Q rest a W') (ho : o.op = .store t p x := by rfl) (hg : o.guard = none := by rfl) (hd : o.dst = none := by rfl) (hT : (P.info? t).map (·.size) = some 1 := by first | exact sBool | exact sStr | exact sInt | exact sStm) (hp : a.eval p = .pointer (some ⟨b, k, none⟩) := by rfl) (hx : a.eval x = v := by rfl)
    (hu : Upd l b T cs ds l' := by repeat (first | apply Upd.head | apply Upd.tail | assumption)) (hc : cs.set k v = ds := by (simp only [List.set_cons_succ, List.set_cons_zero]; rfl)) (hk : k < cs.length := by exact Nat.le_of_ble_eq_true rfl) (h1 : v.oneCell' = true := by rfl) (hv : v.cells = #[v] := by rfl) : wpList P ops Q (o :: rest) a w :=
  wpList_storeH1 H ho hg hd hT hp hx hu hc hk h1 hv hK
theorem bxA (H : Hid (Hp w0 w l)) {t : TypeId} {x : Operand} {d : Tmp} {v : Value} {cs : List Value} {a3 : Nat → Act} (hK : ∀ (b : Nat) W', Hid (Hp w0 W' ((b, t, cs) :: l)) → wpList P ops Q rest (a3 b) W') (ho : o.op = .box t x := by rfl) (hg : o.guard = none := by rfl) (hd : o.dst = some d := by rfl) (hx : a.eval x = v := by (go_simp; rfl)) (hc : v.cells = cs.toArray := by (simp only [Value.cells]; rfl))
    (hn : ∀ b, a.put (some d) (.pointer (some ⟨b, 0, none⟩)) = a3 b := by (intro b; simp only [Act.put, List.setIfInBounds_toArray, List.set_cons_succ, List.set_cons_zero]; rfl)) : wpList P ops Q (o :: rest) a w :=
  wpList_boxH H ho hg hd hx hc fun b W' h => by rw [hn]; exact hK b W' h
theorem alA (H : Hid (Hp w0 w l)) {t : TypeId} {d : Tmp} {z : Value} {cs : List Value} {a3 : Nat → Act} (hK : ∀ (b : Nat) W', Hid (Hp w0 W' ((b, t, cs) :: l)) → wpList P ops Q rest (a3 b) W') (ho : o.op = .alloc t := by rfl) (hg : o.guard = none := by rfl) (hd : o.dst = some d := by rfl) (hz : (P.info? t).bind (·.zero) = some z := by first | exact zRat | exact zSpan | exact zPose | exact zFrame | exact zVec | exact zTurn | exact zBox | exact zStm | exact zWay | exact zSlot) (hc : z.cells = cs.toArray := by (simp only [Value.cells]; rfl))
    (hn : ∀ b, a.put (some d) (.pointer (some ⟨b, 0, none⟩)) = a3 b := by (intro b; simp only [Act.put, List.setIfInBounds_toArray, List.set_cons_succ, List.set_cons_zero]; rfl)) : wpList P ops Q (o :: rest) a w :=
  wpList_allocH H ho hg hd hz hc fun b W' h => by rw [hn]; exact hK b W' h
theorem kldA (H : Hid (Hp w0 w l)) {R : Act → Prop} {t T : TypeId} {p : Operand} {b k n : Nat} {cs ds : List Value} (hK : wpKeep P ops w R rest a2) (ho : o.op = .load t p := by rfl) (hg : Region.wanted o (yielded ops a.tmps) = true := by first | exact wanted_none rfl | exact wanted_some rfl rfl) (hT : RowT P t n := by first | exact rRat | exact rSpan | exact rPose | exact rFrame | exact rVec | exact rTurn | exact rBox | exact rSlot | exact rWay) (hp : a.eval p = .pointer (some ⟨b, k, none⟩) := by rfl)
    (hm : (b, T, cs) ∈ l := by repeat (first | exact List.Mem.head _ | refine List.Mem.tail _ ?_ | assumption)) (hx : (cs.drop k).take n = ds := by (simp only [List.drop, List.take]; rfl)) (hl : ds.length = n := by rfl) (hn : a.put o.dst (.agg ds.toArray) = a2 := by (simp only [Act.put, List.setIfInBounds_toArray, List.set_cons_succ, List.set_cons_zero]; rfl)) : wpKeep P ops w R (o :: rest) a :=
  wpK_loadH H ho hg hT hp hm hx hl (by rw [hn]; exact hK)
theorem kld1A (H : Hid (Hp w0 w l)) {R : Act → Prop} {t T : TypeId} {p : Operand} {b k : Nat} {cs : List Value} {v : Value} (hK : wpKeep P ops w R rest a2) (ho : o.op = .load t p := by rfl) (hg : Region.wanted o (yielded ops a.tmps) = true := by first | exact wanted_none rfl | exact wanted_some rfl rfl) (hT : ∃ d, P.underlying t = some d ∧ d.isRow = false := by first | exact kBool | exact kStr | exact kInt | exact kStm) (hp : a.eval p = .pointer (some ⟨b, k, none⟩) := by rfl)
    (hm : (b, T, cs) ∈ l := by repeat (first | exact List.Mem.head _ | refine List.Mem.tail _ ?_ | assumption)) (hx : cs[k]? = some v := by rfl) (hn : a.put o.dst v = a2 := by (simp only [Act.put, List.setIfInBounds_toArray, List.set_cons_succ, List.set_cons_zero]; rfl)) : wpKeep P ops w R (o :: rest) a :=
  wpK_loadH1 H ho hg hT hp hm hx (by rw [hn]; exact hK)
theorem kskA {R : Act → Prop} {i : Nat} {b : Bool} (hK : wpKeep P ops w R rest a2) (h : o.guard = some (i, b) := by rfl) (hy : yielded ops a.tmps i = some (!b) := by rfl) (hn : a.put o.dst undef = a2 := by (simp only [Act.put, List.setIfInBounds_toArray, List.set_cons_succ, List.set_cons_zero]; rfl)) : wpKeep P ops w R (o :: rest) a :=
  wpK_skip h hy (by rw [hn]; exact hK)
end
end Go.Proofs.YtaiokjhjakdhaaaGreatDoor

namespace Go.Proofs.YtaiokjhjakdhaaaGreatDoor
open Go.RowKit
set_option linter.unusedVariables false

structure Boxd (p : Prop) : Prop where
  out : p
section
variable {P : Program} {ops : Array Oper} {w : World} {R : Act → Prop}
theorem wpKeep_app (l2 : List Oper) : ∀ (l1 : List Oper) (a : Act), wpKeep P ops w (fun a' => Boxd (wpKeep P ops w R l2 a')) l1 a → wpKeep P ops w R (l1 ++ l2) a
  | [], a, h1 => h1.out
  | o :: r, a, h1 => by
    show wpKeep P ops w R (o :: (r ++ l2)) a
    unfold wpKeep at h1 ⊢
    split
    · rename_i hw
      rw [if_pos hw] at h1
      obtain ⟨v, h2, h3⟩ := h1
      exact ⟨v, h2, wpKeep_app l2 r _ h3⟩
    · rename_i hw
      rw [if_neg hw] at h1
      exact wpKeep_app l2 r _ h1
/-- At operation n. -/
theorem wpKeep_cut (n : Nat) {l : List Oper} {a : Act} (h : wpKeep P ops w (fun a' => Boxd (wpKeep P ops w R (l.drop n) a')) (l.take n) a) : wpKeep P ops w R l a := by
  have := wpKeep_app (l.drop n) (l.take n) a h
  rwa [List.take_append_drop] at this
def putAll (a : Act) : List Oper → Act
  | [] => a
  | o :: r => putAll (a.put o.dst undef) r
theorem yielded_put {a : Act} {i : Nat} {t : Tmp} {d : Option Tmp} {v : Value} (ht : (ops[i]?).bind (·.dst) = some t) (hd : d ≠ some t) : yielded ops (a.put d v).tmps i = yielded ops a.tmps i := by
  cases d with
  | none => rfl
  | some d =>
    unfold yielded
    rw [ht]
    have hne : d ≠ t := fun e => hd (by rw [e])
    simp [Act.put, Array.getElem?_setIfInBounds_ne hne]
theorem wpKeep_skips {i : Nat} {b : Bool} {t : Tmp} (ht : (ops[i]?).bind (·.dst) = some t) (l2 : List Oper) : ∀ (l1 : List Oper) (a : Act), (l1.all fun o => decide (o.guard = some (i, b)) && decide (o.dst ≠ some t)) = true →
    yielded ops a.tmps i = some (!b) → wpKeep P ops w R l2 (putAll a l1) → wpKeep P ops w R (l1 ++ l2) a
  | [], a, _, _, h => h
  | o :: r, a, hl, hy, h => by
    simp only [List.all_cons, Bool.and_eq_true, decide_eq_true_eq] at hl
    obtain ⟨⟨h1, h2⟩, h3⟩ := hl
    exact wpK_skip h1 hy (wpKeep_skips ht l2 r _ h3 (by rw [yielded_put ht h2]; exact hy) h)
/-- Behind a cut: n operations are skipped. -/
theorem boxd_skips (n i : Nat) (b : Bool) {t : Tmp} {l : List Oper} {a : Act} (ht : (ops[i]?).bind (·.dst) = some t) (hl : ((l.take n).all fun o => decide (o.guard = some (i, b)) && decide (o.dst ≠ some t)) = true) (hy : yielded ops a.tmps i = some (!b))
    (h : wpKeep P ops w R (l.drop n) (putAll a (l.take n))) : Boxd (wpKeep P ops w R l a) := by
  have := wpKeep_skips ht (l.drop n) (l.take n) a hl hy h
  rw [List.take_append_drop] at this
  exact ⟨this⟩
end
end Go.Proofs.YtaiokjhjakdhaaaGreatDoor

namespace Go.Proofs.YtaiokjhjakdhaaaGreatDoor
open Go.RowKit
set_option linter.unusedVariables false

/-- What a stream still holds: where, how many cells, which numbers. -/
structure Sd where
  A : Option Addr
  c : Nat
  xs : List Int
def Sd.v (S : Sd) : Value := .slice S.A S.xs.length S.c
def Sd.nx (S : Sd) (n : Int) : Int := match S.xs with
  | [] => 0
  | x :: _ => x % n
def Sd.sn (S : Sd) : Sd := match S.xs with
  | [] => S
  | x :: xs => ⟨if S.c = 1 then S.A else S.A.map (fun p => ⟨p.block, p.off + 1, none⟩), S.c - 1, xs⟩
/-- The numbers lie in what was there before the call. -/
structure Sd.ok (S : Sd) (w0 : World) : Prop where
  le : S.xs.length ≤ S.c
  mx : S.c ≤ maxLen
  at_ : 0 < S.xs.length → ∃ b' o, S.A = some ⟨b', o, none⟩ ∧ b' < w0.heap.size ∧ ∀ (j : Nat) (x : Int), S.xs[j]? = some x → w0.cell? ⟨b', o + j, none⟩ = some (.int .i64 x)
  rg : ∀ x ∈ S.xs, -9223372036854775808 ≤ x ∧ x ≤ 9223372036854775807
theorem Sd.ok.next {S : Sd} {w0 : World} (h : S.ok w0) : S.sn.ok w0 := by
  obtain ⟨A, c, xs⟩ := S
  rcases xs with _ | ⟨x, xs⟩
  · exact h
  · have h1 : xs.length + 1 ≤ c := h.le
    have h2 : c ≤ maxLen := h.mx
    refine ⟨?_, ?_, fun hp => ?_, fun y hy => h.rg y (List.mem_cons_of_mem _ hy)⟩
    · show xs.length ≤ c - 1
      omega
    · show c - 1 ≤ maxLen
      omega
    · obtain ⟨b', o, hA, hb, hc⟩ := h.at_ (by simp)
      have hA' : A = some ⟨b', o, none⟩ := hA
      have hp' : 0 < xs.length := hp
      refine ⟨b', o + 1, ?_, hb, fun j y hj => ?_⟩
      · show (if c = 1 then A else A.map _) = _
        rw [if_neg (by omega), hA']
        rfl
      · have hj' : xs[j]? = some y := hj
        have := hc (j + 1) y (by simpa using hj')
        rwa [show o + 1 + j = o + (j + 1) by omega]
theorem Sd.nx_bd (S : Sd) (n : Int) (h : 1 ≤ n) : 0 ≤ S.nx n ∧ S.nx n < n := by
  unfold Sd.nx
  split
  · omega
  · exact ⟨Int.emod_nonneg _ (by omega), Int.emod_lt_of_pos _ (by omega)⟩
theorem Sd.of_arg {w w0 : World} {A : Option Addr} {n c : Nat} {xs : List Int} (h : IntArg w0 A n c xs) : (⟨A, c, xs⟩ : Sd).ok w0 := by
  obtain ⟨rfl, h2, h3, h4, h5⟩ := h
  exact ⟨h2, h3, fun hp => h4 hp, h5⟩
theorem Upd.same_aux {l l' : Ents} {z : Nat} {T : TypeId} {cs ds : List Value} (h : Upd l z T cs ds l') : cs = ds → l' = l := by
  induction h with
  | head => intro hd; rw [hd]
  | tail h ih => intro hd; rw [ih hd]
theorem Upd.same {l l' : Ents} {z : Nat} {T : TypeId} {cs : List Value} (h : Upd l z T cs cs l') : l' = l := h.same_aux rfl
theorem Hp.set1 {w0 w : World} {l l' : Ents} {b : Nat} {T : TypeId} {u v : Value} (h : Hp w0 w l) (hu : Upd l b T [u] [v] l') : Hp w0 (w.setCell ⟨b, 0, none⟩ v) l' := by
  have hb := (h.blk _ hu.mem).2
  exact h.stored hu ⟨(Below.refl 0 w).setCell (Nat.zero_le _) v, fun k _ hk => Below.heap_setCell w ⟨b, 0, none⟩ v k hk⟩ (by have := hb.set_ 0 v; simpa using this)

set_option maxHeartbeats 400000 in
theorem nextH_any {w0 w : World} {m m' : Ents} (S : Sd) (b : Nat) (n : Int) (H : Hid (Hp w0 w m)) (hS : Hid (S.ok w0)) (hu : Hid (Upd m b 49 [S.v] [S.sn.v] m')) (h1 : 1 ≤ n) (h3 : n ≤ 9223372036854775807) :
    Calls Tryz.prog 12 #[.pointer (some ⟨b, 0, none⟩), .int .i64 n] w fun e w' => e = .returned (.int .i64 (S.nx n)) ∧ Hp w0 w' m' := by
  have hB : Blk w b 49 #[S.v] := (H.out.blk _ hu.out.mem).2
  have hc := hB.cell 0
  have hfz := hB.frozen 0
  obtain ⟨A, c, xs⟩ := S
  rcases xs with _ | ⟨x, xs⟩
  · simp only [Sd.v, List.length_nil] at hc
    clear hB
    go_enter Tryz.func12, Tryz.ntmps12
    go_wp2
    go_ret
    have e := hu.out.same
    subst e
    exact ⟨rfl, H.out⟩
  · obtain ⟨b', o, hA, hb', hcell⟩ := hS.out.at_ (by simp)
    have hA' : A = some ⟨b', o, none⟩ := hA
    subst hA'
    have hcw : w.cell? ⟨b', o, none⟩ = some (.int .i64 x) := by
      rw [H.out.bel.cell (p := ⟨b', o, none⟩) hb']
      exact hcell 0 x (by simp)
    have hxb := hS.out.rg x (by simp)
    have hl' : xs.length + 1 ≤ c := hS.out.le
    have hm : c ≤ maxLen := hS.out.mx
    obtain ⟨hx1, hx2⟩ := hxb
    have Hset := Lib.hid (H.out.set1 hu.out)
    clear hcell hS hu H hA
    simp only [Sd.v, List.length_cons] at hc
    have hd : decide (n < 1) = false := by simp; omega
    have HB := Lib.hid hB; clear hB
    generalize hk : xs.length = k at *
    have Hk := Lib.hid hk; clear hk
    go_enter Tryz.func12, Tryz.ntmps12
    go_wp2_with (go_at_call 24; refine (below_any _ _ _ (by omega) hx1 hx2 (by omega)).mono ?_; rintro e w' ⟨rfl, rfl⟩)
    all_goals
      go_ret
      refine ⟨rfl, ?_⟩
      have h := Hset.out
      simp only [Sd.sn, Sd.v] at h
      first | (rw [if_neg (by omega)] at h; rw [Hk.out] at h; exact h) | (have hc1 : c = 1 := (by omega); subst hc1; rw [Hk.out] at h; simpa using h)
/-- gantmake.Of as a rational. -/
def ofQ (num : Int) (den : Nat) : Rat := mkRat num den
theorem ofQ_mkR (num : Int) (den : Nat) : ofQ num den = mkR (decide (num < 0)) num.natAbs den := by
  unfold ofQ mkR
  congr 1
  by_cases h : num < 0
  · simp [h]; omega
  · simp [h]; omega
theorem ratOf_q (num : Int) (den : Nat) (hd : 0 < den) : ratOf num den = #[.bool (sgO (some (ofQ num den))), .string (nuO (some (ofQ num den))), .string (deO (some (ofQ num den)))] := by
  unfold ratOf
  by_cases h0 : num = 0
  · subst h0
    have e : ofQ 0 den = 0 := by unfold ofQ; simp
    rw [e]
    simp [sgO, nuO, deO, nS, Nat.div_self hd]
  · obtain ⟨c1, c2, c3⟩ := mkR_cells (neg := decide (num < 0)) (n := num.natAbs) (d := den) (by omega) hd rfl
    rw [← ofQ_mkR] at c1 c2 c3
    rw [c1, c2, c3]
    rfl
theorem ofQ_sz (num : Int) (den k : Nat) (h1 : num.natAbs < 256 ^ k) (h2 : den < 256 ^ k) (hd : 0 < den) : Sz k (ofQ num den) := by
  rw [ofQ_mkR]
  have h := mkR_le (decide (num < 0)) (n := num.natAbs) hd
  exact ⟨Nat.lt_of_le_of_lt h.1 h1, Nat.lt_of_le_of_lt h.2 h2⟩
theorem ofQ_any (num : Int) (den : Nat) (q : Rat) (w : World) (h1 : -1000000000 ≤ num) (h2 : num ≤ 1000000000) (h3 : 0 < den) (h4 : den ≤ 1000000000) (E : Hid (ofQ num den = q)) :
    Calls Tryz.prog 13 #[.int .i64 num, .int .i64 den] w fun e w' => e = .returned (.agg #[.bool (sgO (some q)), .string (nuO (some q)), .string (deO (some q))]) ∧ Below w.heap.size w w' := by
  have h := of_any num den w (by omega) (by omega) h3 (by omega)
  rw [ratOf_q num den h3, E.out] at h
  exact h
end Go.Proofs.YtaiokjhjakdhaaaGreatDoor

namespace Go.Proofs.YtaiokjhjakdhaaaGreatDoor
open Go.RowKit
set_option linter.unusedVariables false

inductive KdY | c (v : Value) | a | y | b
/-- These two must not change places: the later one has to wait. -/
def needY : KdY → KdY → Bool
  | .c _, _ => false
  | _, .c _ => false
  | .y, .a => false
  | .y, .b => false
  | .a, .b => false
  | .b, .a => false
  | _, _ => true
/-- What the run of an operation must bring. -/
def upY (P : Program) (G : Value → World → Prop) : Result Next → Prop
  | .ok (.value u) W' => G u W'
  | .ok .skip W' => G undef W'
  | .ok (.enter f args) W' => Calls P f args W' fun e W'' => ∃ u, e = .returned u ∧ G u W''
  | _ => False
theorem upY.mono {P : Program} {G G' : Value → World → Prop} (h : ∀ u W, G u W → G' u W) {r : Result Next} (hr : upY P G r) : upY P G' r := by
  cases r with
  | ok n W =>
    cases n <;> simp only [upY] at hr ⊢
    case value u => exact h _ _ hr
    case skip => exact h _ _ hr
    case enter f args => exact hr.mono fun e W'' ⟨u, h1, h2⟩ => ⟨u, h1, h _ _ h2⟩
  | halt x W => simp only [upY] at hr
theorem upY.some_ {P : Program} {G : Value → World → Prop} {r : Result Next} (hr : upY P G r) : ∃ u W, G u W := by
  cases r with
  | ok n W =>
    cases n <;> simp only [upY] at hr
    case value u => exact ⟨_, _, hr⟩
    case skip => exact ⟨_, _, hr⟩
    case enter f args =>
      obtain ⟨e, W'', _, ⟨u, _, h⟩, _⟩ := hr []
      exact ⟨u, W'', h⟩
  | halt x W => simp only [upY] at hr
theorem Hp.mem_sub {w0 w : World} {l m : Ents} (h : Hp w0 w l) (hs : ∀ x ∈ m, x ∈ l) (hn : (m.map (·.1)).Nodup) : Hp w0 w m := ⟨fun x hx => h.blk x (hs x hx), hn, h.bel, h.t0⟩
/-- Some world has these blocks. -/
theorem Hp.real {w0 : World} (ht : Tb w0) {l : Ents} (hn : (l.map (·.1)).Nodup) (hl : ∀ x ∈ l, w0.heap.size ≤ x.1) : ∃ W, Hp w0 W l := by
  have hf : (ovOf l).fin := by
    clear hn hl ht
    induction l with
    | nil => exact ⟨0, fun g b h => by cases h⟩
    | cons x l ih => exact ih.put _ _
  obtain ⟨W, hW⟩ := hf.real w0
  refine ⟨W, fun x hx => ⟨hl x hx, hW.has _ _ (ovOf_mem hn hx)⟩, hn, ⟨hW.all.os, hW.all.tape, hW.all.output, hW.all.size, fun k hk => hW.keep k hk ?_⟩, ht⟩
  cases hu : ovOf l k with
  | none => rfl
  | some b =>
    obtain ⟨x, hx, rfl, _⟩ := ovOf_mem_b hn hu
    have := hl x hx
    omega
/-- Blocks that can be: apart, the call's own, and the ones that stay among them. -/
structure OkY (w0 : World) (l0 l : Ents) : Prop where
  nd : (l.map (·.1)).Nodup
  lo : ∀ x ∈ l, w0.heap.size ≤ x.1
  st : ∀ x ∈ l0, x ∈ l
theorem OkY.cons {w0 : World} {l0 l : Ents} (h : OkY w0 l0 l) {g : Nat} (hg : w0.heap.size ≤ g) (hf : ∀ x ∈ l, x.1 ≠ g) (t : TypeId) (cs : List Value) : OkY w0 l0 ((g, t, cs) :: l) := by
  refine ⟨?_, fun x hx => ?_, fun x hx => .tail _ (h.st x hx)⟩
  · rw [List.map_cons, List.nodup_cons]
    refine ⟨fun hm => ?_, h.nd⟩
    obtain ⟨x, hx, he⟩ := List.mem_map.1 hm
    exact hf x hx he
  · rcases List.mem_cons.1 hx with rfl | hx
    · exact hg
    · exact h.lo x hx
theorem OkY.snoc {w0 : World} {l0 l : Ents} (h : OkY w0 l0 l) {g : Nat} (hg : w0.heap.size ≤ g) (hf : ∀ x ∈ l, x.1 ≠ g) (t : TypeId) (cs : List Value) : OkY w0 l0 (l ++ [(g, t, cs)]) := by
  have h2 := h.cons hg hf t cs
  have hp : ((g, t, cs) :: l).Perm (l ++ [(g, t, cs)]) := (List.perm_append_singleton _ _).symm
  exact ⟨(hp.map (·.1)).nodup_iff.1 h2.nd, fun x hx => h2.lo x (hp.mem_iff.2 hx), fun x hx => List.mem_append_left _ (h.st x hx)⟩
theorem OkY.new {w0 : World} {l0 l : Ents} (h : OkY w0 l0 l) : ∃ g, w0.heap.size ≤ g ∧ ∀ x ∈ l, x.1 ≠ g := by
  have : ∀ l : Ents, ∃ g, w0.heap.size ≤ g ∧ ∀ x ∈ l, x.1 < g := fun l => by
    induction l with
    | nil => exact ⟨_, Nat.le_refl _, fun x hx => by cases hx⟩
    | cons y l ih =>
      obtain ⟨g, h1, h2⟩ := ih
      refine ⟨max g (y.1 + 1), by omega, fun x hx => ?_⟩
      rcases List.mem_cons.1 hx with rfl | hx
      · omega
      · have := h2 x hx
        omega
  obtain ⟨g, h1, h2⟩ := this l
  exact ⟨g, h1, fun x hx => by have := h2 x hx; omega⟩
theorem OkY.of {w0 W : World} {l0 l F : Ents} (h : Hp w0 W (l ++ F)) (hs : ∀ x ∈ l0, x ∈ l) : OkY w0 l0 l := by
  refine ⟨?_, fun x hx => (h.blk x (List.mem_append_left _ hx)).1, hs⟩
  have := h.nd
  rw [List.map_append, List.nodup_append] at this
  exact this.1
section
variable {P : Program} {ops : Array Oper} {md : Region.Mode} {w0 : World} {l0 : Ents}
def YieldsY (P : Program) (ops : Array Oper) (w0 : World) (l0 : Ents) (o : Oper) (v : Value) (a : Act) : Prop :=
  (Region.wanted o (yielded ops a.tmps) = true ∧ ∀ W, Hp w0 W l0 → (execOp a.eval o).run P W = .ok (.value v) W) ∨ (Region.wanted o (yielded ops a.tmps) = false ∧ v = undef)
def RunsY (P : Program) (ops : Array Oper) (w0 : World) (l0 : Ents) (o : Oper) (a : Act) (l : Ents) (S : Value → Ents → Prop) : Prop :=
  Region.wanted o (yielded ops a.tmps) = true ∧ ∀ F W, Hp w0 W (l ++ F) → upY P (fun u W' => ∃ l', Hp w0 W' (l' ++ F) ∧ (∀ x ∈ l0, x ∈ l') ∧ S u l') ((execOp a.eval o).run P W)
def EffY (P : Program) (ops : Array Oper) (w0 : World) (l0 : Ents) (o : Oper) (a : Act) (l : Ents) (K : Act → Ents → Prop) : KdY → Prop
  | .c v => YieldsY P ops w0 l0 o v a ∧ K (a.put o.dst v) l
  | .a => ∃ mk t cs, AllocsAt P ops o a mk (.cells cs.toArray t (0, 0)) ∧ ∀ g, w0.heap.size ≤ g → (∀ x ∈ l, x.1 ≠ g) → K (a.put o.dst (mk g)) ((g, t, cs) :: l)
  | .y => RunsY P ops w0 l0 o a l fun u l' => K (a.put o.dst u) l'
  | .b => ∃ mk t cs, AllocsAt P ops o a mk (.cells cs.toArray t (0, 0)) ∧ ∀ g, w0.heap.size ≤ g → (∀ x ∈ l, x.1 ≠ g) → K (a.put o.dst (mk g)) (l ++ [(g, t, cs)])
theorem RunsY.mono {o : Oper} {a : Act} {l : Ents} {S S' : Value → Ents → Prop} (hS : ∀ u l', OkY w0 l0 l' → S u l' → S' u l') (h : RunsY P ops w0 l0 o a l S) : RunsY P ops w0 l0 o a l S' :=
  ⟨h.1, fun F W hW => (h.2 F W hW).mono fun u W' ⟨l', h1, h2, h3⟩ => ⟨l', h1, h2, hS _ _ (.of h1 h2) h3⟩⟩
theorem RunsY.some_ {o : Oper} {a : Act} {l : Ents} {S : Value → Ents → Prop} (ht : Tb w0) (hl : OkY w0 l0 l) (h : RunsY P ops w0 l0 o a l S) : ∃ u l', OkY w0 l0 l' ∧ S u l' := by
  obtain ⟨W, hW⟩ := Hp.real ht hl.nd hl.lo
  obtain ⟨u, W', l', h1, h2, h3⟩ := (h.2 [] W (by simpa using hW)).some_
  exact ⟨u, l', .of h1 h2, h3⟩
theorem EffY.mono {o : Oper} {a : Act} {l : Ents} {K K' : Act → Ents → Prop} {k : KdY} (hl : OkY w0 l0 l) (hK : ∀ a l', OkY w0 l0 l' → K a l' → K' a l') (h : EffY P ops w0 l0 o a l K k) : EffY P ops w0 l0 o a l K' k := by
  cases k with
  | c v => exact ⟨h.1, hK _ _ hl h.2⟩
  | a => obtain ⟨mk, t, cs, h1, h2⟩ := h; exact ⟨mk, t, cs, h1, fun g h3 h4 => hK _ _ (hl.cons h3 h4 t cs) (h2 g h3 h4)⟩
  | y => exact RunsY.mono (fun u l' => hK _ _) h
  | b => obtain ⟨mk, t, cs, h1, h2⟩ := h; exact ⟨mk, t, cs, h1, fun g h3 h4 => hK _ _ (hl.snoc h3 h4 t cs) (h2 g h3 h4)⟩
theorem EffY.some_ {o : Oper} {a : Act} {l : Ents} {K : Act → Ents → Prop} {k : KdY} (ht : Tb w0) (hl : OkY w0 l0 l) (h : EffY P ops w0 l0 o a l K k) : ∃ a' l', OkY w0 l0 l' ∧ K a' l' := by
  cases k with
  | c v => exact ⟨_, _, hl, h.2⟩
  | a => obtain ⟨mk, t, cs, h1, h2⟩ := h; obtain ⟨g, h3, h4⟩ := hl.new; exact ⟨_, _, hl.cons h3 h4 t cs, h2 g h3 h4⟩
  | y => obtain ⟨u, l', h1, h2⟩ := RunsY.some_ ht hl h; exact ⟨_, _, h1, h2⟩
  | b => obtain ⟨mk, t, cs, h1, h2⟩ := h; obtain ⟨g, h3, h4⟩ := hl.new; exact ⟨_, _, hl.snoc h3 h4 t cs, h2 g h3 h4⟩
section
variable {oi oj : Oper} {a : Act} {l : Ents} {K : Act → Ents → Prop}
/-- What may change places does. -/
theorem EffY.comm {ki kj : KdY} (ht : Tb w0) (hn : needY ki kj = false) (si : ∀ cs b, oi.op ≠ .select cs b) (sj : ∀ cs b, oj.op ≠ .select cs b) (hap : oi.apart ops oj = true) (hl : OkY w0 l0 l)
    (h : EffY P ops w0 l0 oi a l (fun a1 l1 => EffY P ops w0 l0 oj a1 l1 K kj) ki) : EffY P ops w0 l0 oj a l (fun a2 l2 => EffY P ops w0 l0 oi a2 l2 K ki) kj := by
  obtain ⟨h1, h2, h3⟩ := Oper.apart_spec hap
  have ej : ∀ u, execOp (a.put oi.dst u).eval oj = execOp a.eval oj := fun u => execOp_put oj sj a oi.dst u h1
  have wj : ∀ u, Region.wanted oj (yielded ops (a.put oi.dst u).tmps) = Region.wanted oj (yielded ops a.tmps) := fun u => wanted_put oj a oi.dst u h1
  have ei : ∀ u, execOp (a.put oj.dst u).eval oi = execOp a.eval oi := fun u => execOp_put oi si a oj.dst u h3
  have wi : ∀ u, Region.wanted oi (yielded ops (a.put oj.dst u).tmps) = Region.wanted oi (yielded ops a.tmps) := fun u => wanted_put oi a oj.dst u h3
  have cj : ∀ {v u}, YieldsY P ops w0 l0 oj v (a.put oi.dst u) → YieldsY P ops w0 l0 oj v a := fun hy => by unfold YieldsY at *; rw [ej, wj] at hy; exact hy
  have ci : ∀ {v u}, YieldsY P ops w0 l0 oi v a → YieldsY P ops w0 l0 oi v (a.put oj.dst u) := fun hy => by unfold YieldsY at *; rw [ei, wi]; exact hy
  have aj : ∀ {mk b u}, AllocsAt P ops oj (a.put oi.dst u) mk b → AllocsAt P ops oj a mk b := fun hy => by unfold AllocsAt at *; rw [ej, wj] at hy; exact hy
  have ai : ∀ {mk b u}, AllocsAt P ops oi a mk b → AllocsAt P ops oi (a.put oj.dst u) mk b := fun hy => by unfold AllocsAt at *; rw [ei, wi]; exact hy
  have yj : ∀ {u l S}, RunsY P ops w0 l0 oj (a.put oi.dst u) l S → RunsY P ops w0 l0 oj a l S := fun hy => by unfold RunsY at *; rw [ej, wj] at hy; exact hy
  have yi : ∀ {u l S}, RunsY P ops w0 l0 oi a l S → RunsY P ops w0 l0 oi (a.put oj.dst u) l S := fun hy => by unfold RunsY at *; rw [ei, wi]; exact hy
  have pc : ∀ v u, (a.put oj.dst u).put oi.dst v = (a.put oi.dst v).put oj.dst u := fun v u => (Act.put_comm a v u h2).symm
  cases ki with
  | c v =>
    cases kj with
    | c u => exact ⟨cj h.2.1, ci h.1, by rw [pc]; exact h.2.2⟩
    | a =>
      obtain ⟨hv, mk, t, cs, hA, hK⟩ := h
      exact ⟨mk, t, cs, aj hA, fun g hg hf => ⟨ci hv, by rw [pc]; exact hK g hg hf⟩⟩
    | y => exact RunsY.mono (fun u l' _ hK => ⟨ci h.1, by rw [pc]; exact hK⟩) (yj h.2)
    | b =>
      obtain ⟨hv, mk, t, cs, hA, hK⟩ := h
      exact ⟨mk, t, cs, aj hA, fun g hg hf => ⟨ci hv, by rw [pc]; exact hK g hg hf⟩⟩
  | a =>
    cases kj with
    | c u =>
      obtain ⟨mk, t, cs, hA, hK⟩ := h
      obtain ⟨g, hg, hf⟩ := hl.new
      exact ⟨cj (hK g hg hf).1, mk, t, cs, ai hA, fun g hg hf => by rw [pc]; exact (hK g hg hf).2⟩
    | a => cases hn
    | y => cases hn
    | b =>
      obtain ⟨mk, t, cs, hA, hK⟩ := h
      obtain ⟨g0, hg0, hf0⟩ := hl.new
      obtain ⟨mk', t', cs', hB, _⟩ := hK g0 hg0 hf0
      refine ⟨mk', t', cs', aj hB, fun g' hg' hf' => ⟨mk, t, cs, ai hA, fun g hg hf => ?_⟩⟩
      obtain ⟨mk2, t2, cs2, hB2, hK2⟩ := hK g hg (fun x hx => hf x (List.mem_append_left _ hx))
      obtain ⟨rfl, hb⟩ := AllocsAt.uniq w0 (aj hB) (aj hB2)
      obtain ⟨rfl, rfl⟩ := cells_inj hb
      rw [pc]
      refine hK2 g' hg' fun x hx => ?_
      rcases List.mem_cons.1 hx with rfl | hx
      · exact fun e => hf (g', t', cs') (List.mem_append_right _ (.head _)) e.symm
      · exact hf' x hx
  | b =>
    cases kj with
    | c u =>
      obtain ⟨mk, t, cs, hA, hK⟩ := h
      obtain ⟨g, hg, hf⟩ := hl.new
      exact ⟨cj (hK g hg hf).1, mk, t, cs, ai hA, fun g hg hf => by rw [pc]; exact (hK g hg hf).2⟩
    | b => cases hn
    | y => cases hn
    | a =>
      obtain ⟨mk, t, cs, hA, hK⟩ := h
      obtain ⟨g0, hg0, hf0⟩ := hl.new
      obtain ⟨mk', t', cs', hB, _⟩ := hK g0 hg0 hf0
      refine ⟨mk', t', cs', aj hB, fun g' hg' hf' => ⟨mk, t, cs, ai hA, fun g hg hf => ?_⟩⟩
      obtain ⟨mk2, t2, cs2, hB2, hK2⟩ := hK g hg (fun x hx => hf x (.tail _ hx))
      obtain ⟨rfl, hb⟩ := AllocsAt.uniq w0 (aj hB) (aj hB2)
      obtain ⟨rfl, rfl⟩ := cells_inj hb
      rw [pc]
      refine hK2 g' hg' fun x hx => ?_
      rcases List.mem_append.1 hx with hx | hx
      · exact hf' x hx
      · obtain rfl := List.mem_singleton.1 hx
        exact fun e => hf (g', t', cs') (.head _) e.symm
  | y =>
    cases kj with
    | c u =>
      obtain ⟨v, l', _, hc, _⟩ := RunsY.some_ ht hl h
      exact ⟨cj hc, yi (RunsY.mono (fun v l' _ hK => by rw [pc]; exact hK.2) h)⟩
    | a =>
      obtain ⟨v, l', _, mk, t, cs, hA, _⟩ := RunsY.some_ ht hl h
      refine ⟨mk, t, cs, aj hA, fun g hg hf => yi ⟨h.1, fun F W hW => ?_⟩⟩
      have hW2 : Hp w0 W (l ++ (g, t, cs) :: F) := hW.perm (by simp [List.perm_middle.symm])
      refine (h.2 _ W hW2).mono fun u W' ⟨l', h4, h5, mk2, t2, cs2, hA2, hK⟩ => ⟨(g, t, cs) :: l', h4.perm (by simp [List.perm_middle]), fun x hx => .tail _ (h5 x hx), ?_⟩
      obtain ⟨rfl, hb⟩ := AllocsAt.uniq w0 (aj hA) (aj hA2)
      obtain ⟨rfl, rfl⟩ := cells_inj hb
      rw [pc]
      refine hK g hg fun x hx e => ?_
      have := h4.nd
      rw [List.map_append, List.nodup_append] at this
      exact this.2.2 x.1 (List.mem_map.2 ⟨x, hx, rfl⟩) g (List.mem_map.2 ⟨_, .head _, rfl⟩) e
    | y => cases hn
    | b =>
      obtain ⟨v, l', _, mk, t, cs, hA, _⟩ := RunsY.some_ ht hl h
      refine ⟨mk, t, cs, aj hA, fun g hg hf => yi ⟨h.1, fun F W hW => ?_⟩⟩
      have hW2 : Hp w0 W (l ++ (g, t, cs) :: F) := by rw [List.append_assoc] at hW; exact hW
      refine (h.2 _ W hW2).mono fun u W' ⟨l', h4, h5, mk2, t2, cs2, hA2, hK⟩ => ⟨l' ++ [(g, t, cs)], by rw [List.append_assoc]; exact h4, fun x hx => List.mem_append_left _ (h5 x hx), ?_⟩
      obtain ⟨rfl, hb⟩ := AllocsAt.uniq w0 (aj hA) (aj hA2)
      obtain ⟨rfl, rfl⟩ := cells_inj hb
      rw [pc]
      refine hK g hg fun x hx e => ?_
      have := h4.nd
      rw [List.map_append, List.nodup_append] at this
      exact this.2.2 x.1 (List.mem_map.2 ⟨x, hx, rfl⟩) g (List.mem_map.2 ⟨_, .head _, rfl⟩) e
end
def edgesY (md : Region.Mode) (ops : Array Oper) (kd : Nat → KdY) (N : Nat) : Bool := (List.range N).all fun j => (List.range j).all fun i => !needY (kd i) (kd j) || reachB md ops i N j
theorem edgesY_spec {kd : Nat → KdY} {N : Nat} (h : edgesY md ops kd N = true) {j i : Nat} (hj : j < N) (hi : i < j) (hn : needY (kd i) (kd j) = true) : reachB md ops i N j = true := by
  have h1 := List.all_eq_true.1 h j (by simpa using hj)
  have h2 := List.all_eq_true.1 h1 i (by simpa using hi)
  simpa [hn] using h2
/-! Every order -/
def HeadY (P : Program) (md : Region.Mode) (ops : Array Oper) (w0 : World) (l0 : Ents) (kd : Nat → KdY) (N : Nat) (L : Array Bool → Act → Ents → Prop) : Nat → Array Bool → Act → Ents → Prop
  | 0, done, a, l => L done a l
  | f + 1, done, a, l => Region.ready md ops done ≠ [] ∧ ∀ i ∈ Region.ready md ops done, i < N ∧ ∃ o, ops[i]? = some o ∧ EffY P ops w0 l0 o a l (HeadY P md ops w0 l0 kd N L f (done.setIfInBounds i true)) (kd i)
variable {kd : Nat → KdY} {N : Nat}
theorem HeadY.any {L : Array Bool → Act → Ents → Prop} {g : Nat} {Q : Exit → Act → World → Prop} (h0 : (l0.map (·.1)).Nodup) (hL : ∀ done a l W, Hp w0 W l → L done a l → wpAny P md ops Q g done a W) (f : Nat) :
    ∀ (done : Array Bool) (a : Act) (l : Ents) (W : World), Hp w0 W l → OkY w0 l0 l → HeadY P md ops w0 l0 kd N L f done a l → wpAny P md ops Q (f + g) done a W := by
  induction f with
  | zero => intro done a l W hw _ h; rw [Nat.zero_add]; exact hL _ _ _ _ hw h
  | succ f ih =>
    intro done a l W hw hI h
    rw [show f + 1 + g = (f + g) + 1 by omega]
    refine ⟨fun h0 => absurd h0 h.1, fun i hi => ?_⟩
    obtain ⟨_, o, ho, hE⟩ := h.2 i hi
    unfold wpOp
    simp only [ho]
    cases hkd : kd i with
    | c v =>
      rw [hkd] at hE
      obtain ⟨hy, hK⟩ := hE
      rcases hy with ⟨h1, h2⟩ | ⟨h1, rfl⟩
      · rw [if_pos h1]
        refine .inl ?_
        unfold Oper.wp
        rw [h2 W (hw.mem_sub hI.st h0), Oper.upon_value]
        exact ih _ _ _ _ hw hI hK
      · rw [if_neg (by rw [h1]; exact Bool.false_ne_true)]
        exact ih _ _ _ _ hw hI hK
    | a =>
      rw [hkd] at hE
      obtain ⟨mk, t, cs, ⟨h1, h2⟩, hK⟩ := hE
      rw [if_pos h1]
      refine .inl ?_
      unfold Oper.wp
      rw [h2, Oper.upon_value]
      have hf : ∀ x ∈ l, x.1 ≠ W.heap.size := fun x hx e => by have := hw.lt hx; omega
      exact ih _ _ _ _ (hw.fresh ((Below.refl _ _).alloc (Nat.le_refl _) _) (Nat.le_refl _) (Blk.new W t cs.toArray)) (hI.cons hw.bel.size hf t cs) (hK _ hw.bel.size hf)
    | b =>
      rw [hkd] at hE
      obtain ⟨mk, t, cs, ⟨h1, h2⟩, hK⟩ := hE
      rw [if_pos h1]
      refine .inl ?_
      unfold Oper.wp
      rw [h2, Oper.upon_value]
      have hf : ∀ x ∈ l, x.1 ≠ W.heap.size := fun x hx e => by have := hw.lt hx; omega
      exact ih _ _ _ _ ((hw.fresh ((Below.refl _ _).alloc (Nat.le_refl _) _) (Nat.le_refl _) (Blk.new W t cs.toArray)).perm (List.perm_append_singleton _ _).symm) (hI.snoc hw.bel.size hf t cs) (hK _ hw.bel.size hf)
    | y =>
      rw [hkd] at hE
      rw [if_pos hE.1]
      refine .inl ?_
      have h3 := hE.2 [] W (by simpa using hw)
      unfold Oper.wp
      generalize (execOp a.eval o).run P W = r at h3
      cases r with
      | ok n W' =>
        cases n <;> simp only [upY] at h3 <;> simp only [Oper.upon]
        case value u =>
          obtain ⟨l', h4, h5, h6⟩ := h3
          exact ih _ _ _ _ (by simpa using h4) (.of h4 h5) h6
        case skip =>
          obtain ⟨l', h4, h5, h6⟩ := h3
          exact ih _ _ _ _ (by simpa using h4) (.of h4 h5) h6
        case enter f' args =>
          exact h3.mono fun e w'' ⟨u, he, l', h4, h5, h6⟩ => by subst he; exact ih _ _ _ _ (by simpa using h4) (.of h4 h5) h6
      | halt x W' => simp only [upY] at h3
theorem HeadY.first {L : Array Bool → Act → Ents → Prop} {i : Nat} {oi : Oper} (ht : Tb w0) (hi : ops[i]? = some oi) (hiN : i < N) (hsel : ∀ (j : Nat) (o : Oper) cs b, ops[j]? = some o → o.op ≠ .select cs b)
    (hE : edgesY md ops kd N = true) (hs : Region.sinkB md ops N = true) (hc : Region.chainB md ops N = true) (hn : N < ops.size) (hL : ∀ done a l, L done a l → ∀ j ∈ Region.ready md ops done, N ≤ j) (f : Nat) :
    ∀ (done : Array Bool) (a : Act) (l : Ents), HeadInv md ops N done → OkY w0 l0 l → (∀ j, j < i → done.getD j true = true) →
      (∀ j oj, ops[j]? = some oj → j ≠ i → done.getD j true = false → (∀ e ∈ oj.after, Region.binds md e = true → e.on ≠ i) → oi.apart ops oj = true) →
      i ∈ Region.ready md ops done → EffY P ops w0 l0 oi a l (HeadY P md ops w0 l0 kd N L f (done.setIfInBounds i true)) (kd i) → HeadY P md ops w0 l0 kd N L (f + 1) done a l := by
  have low : ∀ done, HeadInv md ops N done → i ∈ Region.ready md ops done → ∀ j ∈ Region.ready md ops done, j < N := fun done inv hr j hj => by
    rcases Nat.lt_or_ge j N with h | h
    · exact h
    · exact absurd hj (tail_waits hs hc hn inv _ i rfl hiN (mem_ready.1 hr).1 j h)
  induction f with
  | zero =>
    intro done a l inv hl _ _ hr H
    refine ⟨fun h => (by rw [h] at hr; cases hr), fun j hj => ⟨low done inv hr j hj, ?_⟩⟩
    rcases Nat.decEq j i with hji | hji
    · obtain ⟨a', l', _, hl'⟩ := EffY.some_ ht hl H
      have := hL _ _ _ hl' j (ready_mono hj hji)
      have := low done inv hr j hj
      omega
    · subst hji; exact ⟨oi, hi, H⟩
  | succ f ih =>
    intro done a l inv hl hd hfree hr H
    refine ⟨fun h => (by rw [h] at hr; cases hr), fun j hj => ⟨low done inv hr j hj, ?_⟩⟩
    rcases Nat.decEq j i with hji | hji
    · obtain ⟨hjun, oj, hoj, hall⟩ := mem_ready.1 hj
      have hun := (mem_ready.1 hr).1
      have hnot : ∀ e ∈ oj.after, Region.binds md e = true → e.on ≠ i := fun e he hb heq => by
        have h1 := hall e he hb
        rw [heq, getD_both hun] at h1
        cases h1
      have hap := hfree j oj hoj hji hjun hnot
      have back : ∀ k, (done.setIfInBounds j true).getD k true = false → done.getD k true = false := fun k hk => by
        rcases Nat.decEq j k with hjk | hjk
        · rw [getD_set_ne true hjk] at hk; exact hk
        · subst hjk; exact hjun
      have hij : i < j := by
        rcases Nat.lt_or_ge i j with h | h
        · exact h
        · have := hd j (by omega)
          rw [hjun] at this
          cases this
      have hjN := low done inv hr j hj
      have hne : needY (kd i) (kd j) = false := by
        cases hq : needY (kd i) (kd j) with
        | false => rfl
        | true => exact absurd hj (reach_waits inv (edgesY_spec hE hjN hij hq) hun)
      refine ⟨oj, hoj, ?_⟩
      have H2 : EffY P ops w0 l0 oi a l (fun a1 l1 => EffY P ops w0 l0 oj a1 l1 (HeadY P md ops w0 l0 kd N L f ((done.setIfInBounds j true).setIfInBounds i true)) (kd j)) (kd i) := H.mono hl fun a1 l1 _ h => by
        obtain ⟨_, oj', hoj', hh⟩ := h.2 j (ready_mono hj hji)
        obtain rfl : oj = oj' := Option.some.inj (hoj.symm.trans hoj')
        rw [Array.setIfInBounds_comm _ _ hji]
        exact hh
      have H3 := EffY.comm ht hne (fun cs b => hsel i oi cs b hi) (fun cs b => hsel j oj cs b hoj) hap hl H2
      refine H3.mono hl fun a2 l2 hf2 h2 => ih _ a2 l2 (inv.set hj hjN) hf2 (fun k hk => by rw [getD_set_ne true (by omega)]; exact hd k hk) (fun k ok hk hki hun' hno => hfree k ok hk hki (back k hun') hno) (ready_mono hr (Ne.symm hji)) h2
    · subst hji; exact ⟨oi, hi, H⟩

/-- The walk in the text's order. -/
def wpY (P : Program) (ops : Array Oper) (w0 : World) (l0 : Ents) (kd : Nat → KdY) (R : Act → Ents → Prop) : Nat → List Oper → Act → Ents → Prop
  | _, [], a, l => R a l
  | k, o :: os, a, l => EffY P ops w0 l0 o a l (wpY P ops w0 l0 kd R (k + 1) os) (kd k)
theorem HeadY.lex {g : Nat} {R : Act → Ents → Prop} (ht : Tb w0) (hsel : Region.noSelect ops = true) (hE : edgesY md ops kd N = true) (hs : Region.sinkB md ops N = true) (hc : Region.chainB md ops N = true) (hn : N < ops.size) (ol : List Oper) :
    ∀ (k : Nat) (done : Array Bool) (a : Act) (l : Ents), (∀ j, j < ol.length → ol[j]? = ops[k + j]?) → k + ol.length = N → HeadInv md ops N done → (∀ j, j < k → done.getD j true = true) → OkY w0 l0 l →
      Region.lexHead md ops g ol.length k done = true → wpY P ops w0 l0 kd R k ol a l →
      HeadY P md ops w0 l0 kd N (fun done' a' l' => Region.seqB md ops g N done' = true ∧ R a' l') ol.length done a l := by
  induction ol with
  | nil =>
    intro k done a l _ hk _ _ _ hB h
    obtain rfl : k = N := by simpa using hk
    exact ⟨by simpa [Region.lexHead] using hB, h⟩
  | cons o ol ih =>
    intro k done a l hl hk inv hd hU hB h
    have h0 : ops[k]? = some o := by simpa using (hl 0 (by simp)).symm
    simp only [List.length_cons] at hk hB ⊢
    rw [Region.lexHead, Bool.and_eq_true, Bool.and_eq_true] at hB
    obtain ⟨⟨hr, hf⟩, hB'⟩ := hB
    have hr' : k ∈ Region.ready md ops done := by simpa using hr
    have hd' : ∀ j, j < k + 1 → (done.setIfInBounds k true).getD j true = true := fun j hj => by
      rcases Nat.decEq k j with hkj | hkj
      · rw [getD_set_ne true hkj]; exact hd j (by omega)
      · subst hkj
        have hks : k < done.size := by rw [inv.size]; omega
        simp [hks]
    refine HeadY.first ht h0 (by omega) (Region.noSelect_spec hsel) hE hs hc hn (fun done' a' U' hL => seqB_ready hL.1) ol.length done a l inv hU hd (Region.free_spec h0 hf) hr' ?_
    exact EffY.mono hU (fun a' l' hf' h' => ih (k + 1) _ a' l' (fun j hj => by have := hl (j + 1) (by simp; omega); simpa [Nat.add_assoc, Nat.add_comm 1 j] using this) (by omega) (inv.set hr' (by omega)) hd' hf' hB' h') h

/-- **A drawn region**, walked in the text's order: N operations of the kinds ks; the rest comes in one forced order. -/
theorem wp_region_Y {id : Nat} {Q : Exit → Act → World → Prop} {a : Act} {ol : List Oper} {w : World} {l : Ents} (N : Nat) (ks : List KdY) (l0 : Ents) (H : Hid (Hp w0 w l)) (hS : l0.Sublist l) (hm : P.follows .mixedOrders = true) (hB : Region.lexTailB .any ol.toArray N = true) (hE : edgesY .any ol.toArray (fun k => ks.getD k .y) N = true)
    (h : wpY P ol.toArray w0 l0 (fun k => ks.getD k .y) (fun a' l' => ∀ W, Hid (Hp w0 W l') → wpList P ol.toArray Q (ol.drop N) a' W) 0 (ol.take N) a l) : (Code.region id ol.toArray true).wp P Q a w := by
  have hs : ∀ x ∈ l0, x ∈ l := fun x hx => hS.subset hx
  have h0 : (l0.map (·.1)).Nodup := (hS.map (·.1)).nodup H.out.nd
  simp only [Region.lexTailB, Bool.and_eq_true, decide_eq_true_eq] at hB
  obtain ⟨⟨⟨⟨hsel, hn⟩, hs'⟩, hc⟩, hlex⟩ := hB
  have hn' : N < ol.length := by simpa using hn
  have htl : (ol.take N).length = N := by simp; omega
  have hdl : (ol.drop N).length = ol.toArray.size - N := by simp
  have start : HeadInv .any ol.toArray N (Array.replicate ol.toArray.size false) := by
    constructor
    · simp
    · intro j oj _ hl; rw [getD_replicate_false] at hl; cases hl
    · intro t _ ht; exact getD_in (by simpa using ht) (getD_replicate_false _ _)
  have hok : OkY w0 l0 l := ⟨H.out.nd, fun x hx => (H.out.blk x hx).1, hs⟩
  have H2 := HeadY.lex (P := P) (w0 := w0) (l0 := l0) (md := .any) (N := N) (g := ol.toArray.size - N) (R := fun a' l' => ∀ W, Hid (Hp w0 W l') → wpList P ol.toArray Q (ol.drop N) a' W) H.out.t0 hsel hE hs' hc hn (ol.take N) 0 _ a l
    (fun j hj => by rw [htl] at hj; simp [hj]) (by rw [htl]; omega) start (fun j hj => by omega) hok (by rw [htl]; exact hlex) h
  rw [htl] at H2
  refine wp_region_any hm ?_
  have := HeadY.any (Q := Q) (g := ol.toArray.size - N) h0 (fun done a' l' W hW hL => by
    have := wpAny_of_seq (md := .any) (Q' := Q) (ol.drop N) N done a' W (fun j => by simp [List.getElem?_drop]) (by rw [hdl]; exact hL.1) (hL.2 W (Lib.hid hW))
    rwa [hdl] at this) _ _ _ _ _ (show Hp w0 { w with drawn := w.drawn + 1 } l from ⟨H.out.blk, H.out.nd, H.out.bel.drew, H.out.t0⟩) hok H2
  rwa [show N + (ol.toArray.size - N) = ol.toArray.size by omega] at this
end
/-! The steps -/
section
variable {P : Program} {ops : Array Oper} {rest : List Oper} {o : Oper} {a a2 : Act} {w0 : World} {l l0 : Ents} {kd : Nat → KdY} {k : Nat} {R : Act → Ents → Prop}
theorem wpY_nil (h : R a l) : wpY P ops w0 l0 kd R k [] a l := h
/-- Known ahead. -/
theorem wpY_c {v : Value} (hk : kd k = .c v) (hg : Region.wanted o (yielded ops a.tmps) = true) (hr : ∀ W, Hid (Hp w0 W l0) → (execOp a.eval o).run P W = .ok (.value v) W) (h : wpY P ops w0 l0 kd R (k + 1) rest (a.put o.dst v) l) : wpY P ops w0 l0 kd R k (o :: rest) a l := by
  show EffY P ops w0 l0 o a l _ (kd k)
  rw [hk]
  exact ⟨.inl ⟨hg, fun W hW => hr W (Lib.hid hW)⟩, h⟩
theorem wpY_load {t T : TypeId} {p : Operand} {b j n : Nat} {cs ds : List Value} (hk : kd k = .c (.agg ds.toArray)) (ho : o.op = .load t p) (hg : Region.wanted o (yielded ops a.tmps) = true) (hT : RowT P t n) (hp : a.eval p = .pointer (some ⟨b, j, none⟩))
    (hm : (b, T, cs) ∈ l0) (hx : (cs.drop j).take n = ds) (hl : ds.length = n) (h : wpY P ops w0 l0 kd R (k + 1) rest (a.put o.dst (.agg ds.toArray)) l) : wpY P ops w0 l0 kd R k (o :: rest) a l :=
  wpY_c hk hg (fun W hW => by
    have hr := run_loadB (P := P) (t := t) (k := j) (hW.out.get hm) hT (by simpa using hx) hl
    unfold execOp
    simp only [ho, hp, hr, Sem.run_bind, Sem.run_pure, Result.andThen_ok]) h
theorem wpY_load1 {t T : TypeId} {p : Operand} {b j : Nat} {cs : List Value} {v : Value} (hk : kd k = .c v) (ho : o.op = .load t p) (hg : Region.wanted o (yielded ops a.tmps) = true) (hT : ∃ d, P.underlying t = some d ∧ d.isRow = false) (hp : a.eval p = .pointer (some ⟨b, j, none⟩))
    (hm : (b, T, cs) ∈ l0) (hx : cs[j]? = some v) (h : wpY P ops w0 l0 kd R (k + 1) rest (a.put o.dst v) l) : wpY P ops w0 l0 kd R k (o :: rest) a l :=
  wpY_c hk hg (fun W hW => by
    have hr := run_loadC (P := P) (t := t) (k := j) hT (hW.out.get hm).out (by simpa using hx)
    unfold execOp
    simp only [ho, hp, hr, Sem.run_bind, Sem.run_pure, Result.andThen_ok]) h
theorem wpY_a {mk : Nat → Value} {t : TypeId} {cs : List Value} (hk : kd k = .a) (hA : AllocsAt P ops o a mk (.cells cs.toArray t (0, 0))) (h : ∀ g, wpY P ops w0 l0 kd R (k + 1) rest (a.put o.dst (mk g)) ((g, t, cs) :: l)) : wpY P ops w0 l0 kd R k (o :: rest) a l := by
  show EffY P ops w0 l0 o a l _ (kd k)
  rw [hk]
  exact ⟨mk, t, cs, hA, fun g _ _ => h g⟩
theorem wpY_y (hk : kd k = .y) (hg : Region.wanted o (yielded ops a.tmps) = true) (h : ∀ (G : Value → World → Prop) (F : Ents) (W : World), Hid (Hp w0 W (l ++ F)) → (∀ u W' l', Hp w0 W' (l' ++ F) → l0.Sublist l' → wpY P ops w0 l0 kd R (k + 1) rest (a.put o.dst u) l' → G u W') → upY P G ((execOp a.eval o).run P W)) : wpY P ops w0 l0 kd R k (o :: rest) a l := by
  show EffY P ops w0 l0 o a l _ (kd k)
  rw [hk]
  exact ⟨hg, fun F W hW => h _ F W (Lib.hid hW) fun u W' l' h1 h2 h3 => ⟨l', h1, fun x hx => h2.subset hx, h3⟩⟩
/-- A new variable. -/
theorem wpY_al {t : TypeId} {z : Value} {cs : List Value} (hk : kd k = .a) (ho : o.op = .alloc t) (hg : o.guard = none) (hz : (P.info? t).bind (·.zero) = some z) (hc : z.cells = cs.toArray)
    (h : ∀ g, wpY P ops w0 l0 kd R (k + 1) rest (a.put o.dst (.pointer (some ⟨g, 0, none⟩))) ((g, t, cs) :: l)) : wpY P ops w0 l0 kd R k (o :: rest) a l := by
  have hi : ∃ i, P.info? t = some i ∧ i.zero = some z := by
    cases hq : P.info? t with
    | none => simp [hq] at hz
    | some i => exact ⟨i, rfl, by simpa [hq] using hz⟩
  obtain ⟨i, hi1, hi2⟩ := hi
  exact wpY_a (mk := fun g => .pointer (some ⟨g, 0, none⟩)) hk ⟨by simp [Region.wanted, hg], fun W => by
    unfold execOp
    simp only [ho]
    simp [go_sem, zeroValue, typeInfo, hi1, hi2]
    show W.alloc (.cells z.cells t) = _
    rw [hc]⟩ h
/-- Pure, its value not known ahead. -/
theorem wpY_p {v : Value} (hk : kd k = .y) (hs : l0.Sublist l) (hg : Region.wanted o (yielded ops a.tmps) = true) (hr : ∀ W, (execOp a.eval o).run P W = .ok (.value v) W) (h : wpY P ops w0 l0 kd R (k + 1) rest (a.put o.dst v) l) : wpY P ops w0 l0 kd R k (o :: rest) a l :=
  wpY_y hk hg fun G F W hW hG => by rw [hr W]; exact hG _ _ _ hW.out hs h
theorem wpY_V (t : TypeId) (cs : List Value) (n : Nat) (hk : kd k = .a) (hg : o.guard = none) (hr : ∀ W : World, (execOp a.eval o).run P W = .ok (.value (.slice (some ⟨W.heap.size, 0, none⟩) n n)) (W.alloc (.cells cs.toArray t)))
    (h : ∀ g, wpY P ops w0 l0 kd R (k + 1) rest (a.put o.dst (.slice (some ⟨g, 0, none⟩) n n)) ((g, t, cs) :: l)) : wpY P ops w0 l0 kd R k (o :: rest) a l :=
  wpY_a (mk := fun g => .slice (some ⟨g, 0, none⟩) n n) hk ⟨by simp [Region.wanted, hg], hr⟩ h
/-- A cell that is known wherever l0 lies. -/
theorem wpY_loadX {t : TypeId} {p : Operand} {b j : Nat} {v : Value} (hk : kd k = .c v) (ho : o.op = .load t p) (hg : Region.wanted o (yielded ops a.tmps) = true) (hT : ∃ d, P.underlying t = some d ∧ d.isRow = false) (hp : a.eval p = .pointer (some ⟨b, j, none⟩))
    (hx : ∀ W, Hid (Hp w0 W l0) → W.cell? ⟨b, j, none⟩ = some v) (h : wpY P ops w0 l0 kd R (k + 1) rest (a.put o.dst v) l) : wpY P ops w0 l0 kd R k (o :: rest) a l :=
  wpY_c hk hg (fun W hW => by
    obtain ⟨d, h1, h2⟩ := hT
    have hc := hx W hW
    have hagg : (isAgg t).run P W = .ok false W := by
      unfold isAgg
      rw [Sem.run_bind, run_underlying h1 W]
      cases d <;> simp_all
    unfold execOp
    simp only [ho, hp, Instr.loadAt, Instr.sureAddr, loadVar, Sem.run_bind, Sem.run_pure, Result.andThen_ok, hagg]
    simp [hc, go_sem]) h
end
end Go.Proofs.YtaiokjhjakdhaaaGreatDoor
