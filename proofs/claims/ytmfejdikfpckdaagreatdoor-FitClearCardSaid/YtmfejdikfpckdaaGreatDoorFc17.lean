/- The blocks of a call as one list: every operation on structs is one law over it, in a plain region and in one that draws its order. No program but for the library's table. · wp_region_newput over the list of the call's blocks. No program. · wp_region_uni over the list of the call's blocks. No program. · Slices that grow, over the list of the call's blocks. No program. · Rows of structs read element by element: no walk. Printed by gen/clk.py. · Facts on the structs, and what the walks of see speak of. Printed by gen/seeh.py. · As Uni and HeapU, with a further kind of operation: it reads or calls, leaves all as it is, and yields a value that is known ahead, in every world in which what lay there is as it was: it may change places with the making of a block. No program. · As UniR, with two further kinds of operation: c v is pure, its value known ahead, and may stand anywhere; x changes the blocks in any way (append) and waits for all others but c. A further block, of any kind, stays. No program. · A block of any kind (a map) beside the list of blocks: the laws that change blocks. No walk. · A region that draws its order and calls what changes one known block (a stream of numbers): the state is the list of the call's own blocks. Kinds: p (reads, calls, computes: over blocks that do not change), a (makes a block), s (changes a known block, and may yield a value). Printed by gen/unv.py. · The laws over the list of blocks, their small premises left to be found where they are used. · A region that draws, walked up to a run of skipped operations, and behind it: no goal is met whose head is skipped. No program. · Rows that lie among known blocks; loads of known cells; lists alike. No walk. (Cut out of the texts of jobs.) · see.Has. Printed by gen/seeh.py. · see.long. Printed by gen/seeh.py. · see.meet. Printed by gen/seeh.py. · see.Of. Printed by gen/seeh.py. · see.within. Printed by gen/seeh.py. · see.Inside. Printed by gen/seeh.py. · see.Same. Printed by gen/seeh.py. · What the walks over spec.py speak of: no walk. Printed by gen/spech.py. · see.Middle, its closure. Printed by gen/spech.py. · see.Middle. Printed by gen/spech.py. · see.meet, its values as functions. Printed by gen/spech.py. · see.Narrow: they meet. Printed by gen/spech.py. · see.Narrow: they do not meet. Printed by gen/spech.py. · see.Width. Printed by gen/spech.py. · span.around, what it speaks of. Printed by gen/spech.py. · a slice built of numbers. Printed by gen/spech.py. · A stream of numbers among the call's own blocks: what Next yields and leaves, as functions; gantmake.Of as a rational number. · What the walks of gantkeep4 speak of: no walk. Printed by gen/keep.py. · gantkeep4.between. Printed by gen/keep.py. · the closure of gantkeep4.Pose. Printed by gen/keep.py. · the closure of gantkeep4.Within. Printed by gen/keep.py. · Values of a pose and a frame drawn from a stream: no walk. Printed by gen/keep.py. · gantkeep4.Frame. Printed by gen/keep.py. · gantkeep4.Pose. Printed by gen/keep.py. · gantkeep4.Within. Printed by gen/keep.py. · What the laws of see and carry draw, and their questions: no walk. Printed by gen/lawr6.py. · see.Narrow at good poses. Printed by gen/lawr6.py. · What the walks of turn speak of: no walk. Printed by gen/spech.py. · Spans as they lie in memory and as they count; what the walks of see and carry compute: no walk. Printed by gen/spech2.py. · carry.add. Printed by gen/spech2.py. · carry.ends. Printed by gen/spech2.py. · carry.turned. Printed by gen/spech2.py. · see.wide. Printed by gen/spech2.py. · see.Widen. Printed by gen/spech2.py. · see.Look, where something is left. Printed by gen/spech2.py. · gantry/turn.Of. Printed by gen/spech.py. · gantry/turn.fit. Printed by gen/spech.py. · gantry/turn.Cos. Printed by gen/spech.py. · gantry/turn.Sin. Printed by gen/spech.py. · turn.Then. Printed by gen/spech2.py. -/
import Derived.Test.YtmfejdikfpckdaaGreatDoorFc8
import Derived.Test.YtmfejdikfpckdaaGreatDoorFc15
import Derived.Test.YtmfejdikfpckdaaGreatDoorFc7
import Derived.Test.YtmfejdikfpckdaaGreatDoorFc9
import Derived.Test.YtmfejdikfpckdaaGreatDoorFc16
import Derived.Test.YtmfejdikfpckdaaGreatDoorFc6
import Derived.Test.YtmfejdikfpckdaaGreatDoorFc11
namespace Go.Proofs.YtmfejdikfpckdaaGreatDoor
open Go.RowKit
set_option linter.unusedVariables false

abbrev Ents := List (Nat × TypeId × List Value)
/-- The call's own blocks; all that was there is as it was; the library's table is there. -/
structure Hp (w0 w : World) (l : Ents) : Prop where
  blk : ∀ x ∈ l, w0.heap.size ≤ x.1 ∧ Blk w x.1 x.2.1 x.2.2.toArray
  nd : (l.map (·.1)).Nodup
  bel : Below w0.heap.size w0 w
  t0 : Tb w0
theorem Hp.tb {w0 w : World} {l : Ents} (h : Hp w0 w l) : Tb w := h.t0.below h.bel
theorem Hp.tbx {w0 w : World} {l : Ents} (h : Hp w0 w l) (s : Ext w) : Tb s.to := h.tb.below s.h
theorem Hp.start {w : World} (h : Tb w) : Hp w w [] := ⟨(fun _ h => by cases h), List.Pairwise.nil, Below.refl _ _, h⟩
theorem Hp.go {w0 w w' : World} {l : Ents} (h : Hp w0 w l) (hb : Below w.heap.size w w') : Hp w0 w' l :=
  ⟨fun x hx => ⟨(h.blk x hx).1, (h.blk x hx).2.below hb (h.blk x hx).2.lt⟩, h.nd, h.bel.trans (hb.mono h.bel.size), h.t0⟩
theorem Hp.lt {w0 w : World} {l : Ents} (h : Hp w0 w l) {x : Nat × TypeId × List Value} (hx : x ∈ l) : x.1 < w.heap.size := (h.blk x hx).2.lt
theorem Hp.fresh {w0 w w' : World} {l : Ents} (h : Hp w0 w l) (hb : Below w.heap.size w w') {b : Nat} {t : TypeId} {cs : List Value} (hg : w.heap.size ≤ b) (hk : Blk w' b t cs.toArray) : Hp w0 w' ((b, t, cs) :: l) := by
  refine ⟨fun x hx => ?_, ?_, (h.go hb).bel, h.t0⟩
  · rcases List.mem_cons.1 hx with rfl | hx
    · exact ⟨Nat.le_trans h.bel.size hg, hk⟩
    · exact (h.go hb).blk x hx
  · rw [List.map_cons, List.nodup_cons]
    refine ⟨fun hm => ?_, h.nd⟩
    obtain ⟨x, hx, he⟩ := List.mem_map.1 hm
    have h1 := h.lt hx
    have h2 : x.1 = b := he
    omega
/-- One block's cells are others. -/
inductive Upd : Ents → Nat → TypeId → List Value → List Value → Ents → Prop
  | head {b : Nat} {T : TypeId} {cs ds : List Value} {l : Ents} : Upd ((b, T, cs) :: l) b T cs ds ((b, T, ds) :: l)
  | tail {b : Nat} {T : TypeId} {cs ds : List Value} {l l' : Ents} {x : Nat × TypeId × List Value} (h : Upd l b T cs ds l') : Upd (x :: l) b T cs ds (x :: l')
theorem Upd.mem {l l' : Ents} {b : Nat} {T : TypeId} {cs ds : List Value} (h : Upd l b T cs ds l') : (b, T, cs) ∈ l := by
  induction h with
  | head => exact .head _
  | tail _ ih => exact .tail _ ih
theorem Upd.fst {l l' : Ents} {b : Nat} {T : TypeId} {cs ds : List Value} (h : Upd l b T cs ds l') : l'.map (·.1) = l.map (·.1) := by
  induction h with
  | head => rfl
  | tail _ ih => rw [List.map_cons, List.map_cons, ih]
theorem Upd.all {l l' : Ents} {b : Nat} {T : TypeId} {cs ds : List Value} (h : Upd l b T cs ds l') {p q : Nat × TypeId × List Value → Prop} (hn : (l.map (·.1)).Nodup) (ho : ∀ x ∈ l, x.1 ≠ b → p x → q x) (hq : q (b, T, ds)) (hp : ∀ x ∈ l, p x) : ∀ x ∈ l', q x := by
  induction h with
  | head =>
    rw [List.map_cons, List.nodup_cons] at hn
    intro x hx
    rcases List.mem_cons.1 hx with rfl | hx
    · exact hq
    · exact ho x (.tail _ hx) (fun e => hn.1 (by rw [← e]; exact List.mem_map.2 ⟨x, hx, rfl⟩)) (hp x (.tail _ hx))
  | tail h ih =>
    rename_i y
    rw [List.map_cons, List.nodup_cons] at hn
    intro x hx
    rcases List.mem_cons.1 hx with rfl | hx
    · refine ho _ (.head _) (fun e => hn.1 ?_) (hp _ (.head _))
      rw [e]
      exact List.mem_map.2 ⟨_, h.mem, rfl⟩
    · exact ih hn.2 (fun x hx => ho x (.tail _ hx)) hq (fun x hx => hp x (.tail _ hx)) x hx
theorem Hp.stored {w0 w w' : World} {l l' : Ents} {b : Nat} {T : TypeId} {cs ds : List Value} (h : Hp w0 w l) (hu : Upd l b T cs ds l') (hz : BelowZ b w w') (hk : Blk w' b T ds.toArray) : Hp w0 w' l' := by
  have hb := (h.blk _ hu.mem).1
  refine ⟨?_, by rw [hu.fst]; exact h.nd, hz.below h.bel hb h.bel.size, h.t0⟩
  exact hu.all (p := fun x => w0.heap.size ≤ x.1 ∧ Blk w x.1 x.2.1 x.2.2.toArray) (q := fun x => w0.heap.size ≤ x.1 ∧ Blk w' x.1 x.2.1 x.2.2.toArray) h.nd (fun x hx hne hp => ⟨hp.1, hz.blk hp.2 hne⟩) ⟨hb, hk⟩ h.blk
theorem Hp.get {w0 w : World} {l : Ents} (h : Hp w0 w l) {b : Nat} {T : TypeId} {cs : List Value} (hm : (b, T, cs) ∈ l) : Hid (Blk w b T cs.toArray) := (h.blk _ hm).2

section
variable {P : Program} {ops : Array Oper} {rest : List Oper} {o : Oper} {a : Act} {w0 w : World} {l l' : Ents} {Q : Exit → Act → World → Prop}
theorem wpList_loadH (H : Hid (Hp w0 w l)) {t T : TypeId} {p : Operand} {b k n : Nat} {cs ds : List Value} (ho : o.op = .load t p) (hg : Region.wanted o (yielded ops a.tmps) = true) (hT : RowT P t n) (hp : a.eval p = .pointer (some ⟨b, k, none⟩))
    (hm : (b, T, cs) ∈ l) (hx : (cs.drop k).take n = ds) (hl : ds.length = n) (hK : wpList P ops Q rest (a.put o.dst (.agg ds.toArray)) w) : wpList P ops Q (o :: rest) a w :=
  wpList_loadB ho hg hT hp (H.out.get hm) (by simpa using hx) hl hK
theorem wpList_loadH1 (H : Hid (Hp w0 w l)) {t T : TypeId} {p : Operand} {b k : Nat} {cs : List Value} {v : Value} (ho : o.op = .load t p) (hg : Region.wanted o (yielded ops a.tmps) = true) (hT : ∃ d, P.underlying t = some d ∧ d.isRow = false) (hp : a.eval p = .pointer (some ⟨b, k, none⟩))
    (hm : (b, T, cs) ∈ l) (hx : cs[k]? = some v) (hK : wpList P ops Q rest (a.put o.dst v) w) : wpList P ops Q (o :: rest) a w :=
  wpList_loadC ho hg hT hp (H.out.get hm) (by simpa using hx) hK
theorem wpList_storeH (H : Hid (Hp w0 w l)) {t T : TypeId} {p x : Operand} {b k n : Nat} {cs vs ds : List Value} (ho : o.op = .store t p x) (hg : o.guard = none) (hd : o.dst = none) (hT : RowT P t n) (hp : a.eval p = .pointer (some ⟨b, k, none⟩)) (hx : a.eval x = .agg vs.toArray)
    (hu : Upd l b T cs ds l') (hl : vs.length = n) (hc : cs.take k ++ vs ++ cs.drop (k + n) = ds) (hk : k + n ≤ cs.length) (h1 : vs.all (·.oneCell') = true)
    (hK : ∀ W', Hid (Hp w0 W' l') → wpList P ops Q rest a W') : wpList P ops Q (o :: rest) a w :=
  wpList_storeB ho hg hd hT hp hx (H.out.get hu.mem) hl (by simpa using hk) h1 (by simpa using hc) fun W' hz hb => hK W' (H.out.stored hu hz hb.out)
theorem wpList_storeH1 (H : Hid (Hp w0 w l)) {t T : TypeId} {p x : Operand} {b k : Nat} {cs ds : List Value} {v : Value} (ho : o.op = .store t p x) (hg : o.guard = none) (hd : o.dst = none) (hT : (P.info? t).map (·.size) = some 1) (hp : a.eval p = .pointer (some ⟨b, k, none⟩)) (hx : a.eval x = v)
    (hu : Upd l b T cs ds l') (hc : cs.set k v = ds) (hk : k < cs.length) (h1 : v.oneCell' = true) (hv : v.cells = #[v])
    (hK : ∀ W', Hid (Hp w0 W' l') → wpList P ops Q rest a W') : wpList P ops Q (o :: rest) a w :=
  wpList_storeC ho hg hd hT hp hx (H.out.get hu.mem) (by simpa using hk) h1 hv (by simpa using hc) fun W' hz hb => hK W' (H.out.stored hu hz hb.out)
theorem wpList_boxH (H : Hid (Hp w0 w l)) {t : TypeId} {x : Operand} {d : Tmp} {v : Value} {cs : List Value} (ho : o.op = .box t x) (hg : o.guard = none) (hd : o.dst = some d) (hx : a.eval x = v) (hc : v.cells = cs.toArray)
    (hK : ∀ (b : Nat) W', Hid (Hp w0 W' ((b, t, cs) :: l)) → wpList P ops Q rest (a.put (some d) (.pointer (some ⟨b, 0, none⟩))) W') : wpList P ops Q (o :: rest) a w :=
  wpList_newB (cs := cs) (t := t) hg hd (fun W => by
    unfold execOp
    simp only [ho, hx]
    simp [go_sem]
    show W.alloc (.cells v.cells t) = _
    rw [hc]) fun b W' h1 h2 h3 => hK b W' (H.out.fresh h2 h1 h3.out)
theorem wpList_allocH (H : Hid (Hp w0 w l)) {t : TypeId} {d : Tmp} {z : Value} {cs : List Value} (ho : o.op = .alloc t) (hg : o.guard = none) (hd : o.dst = some d) (hz : (P.info? t).bind (·.zero) = some z) (hc : z.cells = cs.toArray)
    (hK : ∀ (b : Nat) W', Hid (Hp w0 W' ((b, t, cs) :: l)) → wpList P ops Q rest (a.put (some d) (.pointer (some ⟨b, 0, none⟩))) W') : wpList P ops Q (o :: rest) a w := by
  have hi : ∃ i, P.info? t = some i ∧ i.zero = some z := by
    cases hq : P.info? t with
    | none => simp [hq] at hz
    | some i => exact ⟨i, rfl, by simpa [hq] using hz⟩
  obtain ⟨i, hi1, hi2⟩ := hi
  exact wpList_newB (cs := cs) (t := t) hg hd (fun W => by
    unfold execOp
    simp only [ho]
    simp [go_sem, zeroValue, typeInfo, hi1, hi2]
    show W.alloc (.cells z.cells t) = _
    rw [hc]) fun b W' h1 h2 h3 => hK b W' (H.out.fresh h2 h1 h3.out)

/-! A region that draws its order: the head -/
theorem wpK_step {R : Act → Prop}
    (h : ∀ K : Act → Prop, (∀ a, wpKeep P ops w R rest a → K a) → if Region.wanted o (yielded ops a.tmps) then (∃ v, (∀ s : Ext w, Oper.quietUpon P (fun w'' => Below s.to.heap.size s.to w'') s.to v ((execOp a.eval o).run P s.to)) ∧ K (a.put o.dst v)) else K (a.put o.dst undef)) : wpKeep P ops w R (o :: rest) a := h _ (fun _ h => h)
theorem wpK_loadH (H : Hid (Hp w0 w l)) {R : Act → Prop} {t T : TypeId} {p : Operand} {b k n : Nat} {cs ds : List Value} (ho : o.op = .load t p) (hg : Region.wanted o (yielded ops a.tmps) = true) (hT : RowT P t n) (hp : a.eval p = .pointer (some ⟨b, k, none⟩))
    (hm : (b, T, cs) ∈ l) (hx : (cs.drop k).take n = ds) (hl : ds.length = n) (hK : wpKeep P ops w R rest (a.put o.dst (.agg ds.toArray))) : wpKeep P ops w R (o :: rest) a :=
  wpKeep_loadB ho hg hT hp (H.out.get hm) (by simpa using hx) hl hK
theorem run_loadC {t T : TypeId} {b k : Nat} {cs : Array Value} {v : Value} (hT : ∃ d, P.underlying t = some d ∧ d.isRow = false) (h : Blk w b T cs) (hx : cs[k]? = some v) : (Instr.loadAt t (.pointer (some ⟨b, k, none⟩))).run P w = .ok v w := by
  obtain ⟨d, h1, h2⟩ := hT
  have hc : w.cell? ⟨b, k, none⟩ = some v := by rw [h.cell]; exact hx
  have hagg : (isAgg t).run P w = .ok false w := by
    unfold isAgg
    rw [Sem.run_bind, run_underlying h1 w]
    cases d <;> simp_all
  simp only [Instr.loadAt, Instr.sureAddr, loadVar, Sem.run_bind, Sem.run_pure, Result.andThen_ok, hagg]
  simp [hc, go_sem]
theorem wpK_loadH1 (H : Hid (Hp w0 w l)) {R : Act → Prop} {t T : TypeId} {p : Operand} {b k : Nat} {cs : List Value} {v : Value} (ho : o.op = .load t p) (hg : Region.wanted o (yielded ops a.tmps) = true) (hT : ∃ d, P.underlying t = some d ∧ d.isRow = false) (hp : a.eval p = .pointer (some ⟨b, k, none⟩))
    (hm : (b, T, cs) ∈ l) (hx : cs[k]? = some v) (hK : wpKeep P ops w R rest (a.put o.dst v)) : wpKeep P ops w R (o :: rest) a := by
  unfold wpKeep
  rw [if_pos hg]
  refine ⟨v, fun s => ?_, hK⟩
  have hb : Blk s.to b T cs.toArray := (H.out.get hm).out.below s.h (H.out.get hm).out.lt
  have hr := run_loadC (P := P) (t := t) (k := k) hT hb (by simpa using hx)
  unfold keepsAt execOp
  simp only [ho, hp, hr, Sem.run_bind, Sem.run_pure, Result.andThen_ok]
  exact ⟨rfl, rfl⟩
theorem wpQuiet_of_keep {R : Act → Prop} : ∀ (l : List Oper) (a : Act), wpKeep P ops w R l a → wpQuiet P ops (fun w' => ∃ s : Ext w, w' = s.to) R l a
  | [], a, h => h
  | o :: rest, a, h => by
    unfold wpKeep at h
    unfold wpQuiet
    split
    · rename_i hw
      rw [if_pos hw] at h
      obtain ⟨v, h1, h2⟩ := h
      refine ⟨v, ?_, wpQuiet_of_keep rest _ h2⟩
      rintro _ ⟨s, rfl⟩
      exact quietUpon_mono (fun w' hb => ⟨⟨w', s.h.trans (hb.mono s.h.size)⟩, rfl⟩) (h1 s)
    · rename_i hw
      rw [if_neg hw] at h
      exact wpQuiet_of_keep rest _ h
/-- All operations read or call. -/
theorem wp_region_E {id : Nat} {ol : List Oper} (H : Hid (Hp w0 w l)) (hm : P.follows .mixedOrders = true) (hB : Region.lexB .any ol.toArray = true)
    (h : wpKeep P ol.toArray w (fun a' => ∀ W, Hid (Hp w0 W l) → Q .normal a' W) ol a) : (Code.region id ol.toArray true).wp P Q a w := by
  refine wp_region_ext hm hB (wpQuiet_of_keep ol a ?_)
  have mono : ∀ (l' : List Oper) (a : Act) {R R' : Act → Prop}, (∀ a, R a → R' a) → wpKeep P ol.toArray w R l' a → wpKeep P ol.toArray w R' l' a := by
    intro l'
    induction l' with
    | nil => intro a R R' hR h; exact hR _ h
    | cons o r ih =>
      intro a R R' hR h
      unfold wpKeep at h ⊢
      split
      · rename_i hw
        rw [if_pos hw] at h
        obtain ⟨v, h1, h2⟩ := h
        exact ⟨v, h1, ih _ hR h2⟩
      · rename_i hw
        rw [if_neg hw] at h
        exact ih _ hR h
  refine mono ol a (fun a' h1 w' hw' => ?_) h
  obtain ⟨s, rfl⟩ := hw'
  exact h1 _ (H.out.go s.h)
/-- n operations read or call; the rest comes in one forced order. -/
theorem wp_region_T {id : Nat} {ol : List Oper} (n : Nat) (H : Hid (Hp w0 w l)) (hm : P.follows .mixedOrders = true) (hB : Region.lexTailB .any ol.toArray n = true)
    (h : wpKeep P ol.toArray w (fun a' => ∀ W, Hid (Hp w0 W l) → wpList P ol.toArray Q (ol.drop n) a' W) (ol.take n) a) : (Code.region id ol.toArray true).wp P Q a w := by
  refine wp_region_fresh n [] hm (by simpa using hB) (by simp [AllAlloc]) ?_
  have mono : ∀ (l' : List Oper) (a : Act) {R R' : Act → Prop}, (∀ a, R a → R' a) → wpKeep P ol.toArray w R l' a → wpKeep P ol.toArray w R' l' a := by
    intro l'
    induction l' with
    | nil => intro a R R' hR h; exact hR _ h
    | cons o r ih =>
      intro a R R' hR h
      unfold wpKeep at h ⊢
      split
      · rename_i hw
        rw [if_pos hw] at h
        obtain ⟨v, h1, h2⟩ := h
        exact ⟨v, h1, ih _ hR h2⟩
      · rename_i hw
        rw [if_neg hw] at h
        exact ih _ hR h
  refine mono _ a (fun a' h1 => ?_) h
  simp only [List.length_nil, List.take_zero, wpNew, Nat.add_zero]
  intro W hW
  exact h1 W (H.out.go hW.1)
/-- .. a new block between. -/
theorem wp_region_F1 {id : Nat} {ol : List Oper} {o1 : Oper} {t : TypeId} {cs : List Value} (n : Nat) (H : Hid (Hp w0 w l)) (hm : P.follows .mixedOrders = true) (hB : Region.lexTailB .any ol.toArray (n + 1) = true)
    (ho : ol.drop n = o1 :: ol.drop (n + 1)) (hA : Allocs P ol.toArray o1 (.cells cs.toArray t))
    (h : wpKeep P ol.toArray w (fun a' => ∀ b W, Hid (Hp w0 W ((b, t, cs) :: l)) → wpList P ol.toArray Q (ol.drop (n + 1)) (a'.put o1.dst (.pointer (some ⟨b, 0, none⟩))) W) (ol.take n) a) : (Code.region id ol.toArray true).wp P Q a w := by
  refine wp_region_fresh n [.cells cs.toArray t] hm (by simpa using hB) (by rw [ho]; simp [AllAlloc, hA]) ?_
  have mono : ∀ (l' : List Oper) (a : Act) {R R' : Act → Prop}, (∀ a, R a → R' a) → wpKeep P ol.toArray w R l' a → wpKeep P ol.toArray w R' l' a := by
    intro l'
    induction l' with
    | nil => intro a R R' hR h; exact hR _ h
    | cons o r ih =>
      intro a R R' hR h
      unfold wpKeep at h ⊢
      split
      · rename_i hw
        rw [if_pos hw] at h
        obtain ⟨v, h1, h2⟩ := h
        exact ⟨v, h1, ih _ hR h2⟩
      · rename_i hw
        rw [if_neg hw] at h
        exact ih _ hR h
  refine mono _ a (fun a' h1 => ?_) h
  rw [ho]
  simp only [List.length_cons, List.length_nil, List.take_succ_cons, List.take_zero, wpNew, Nat.zero_add]
  intro g hg hn W hW
  exact h1 g W (H.out.fresh hW.1 hg (hW.2 g _ (.inl ⟨rfl, rfl⟩)))

/-! .. with a store that floats -/
/-- The store that floats writes a whole struct. -/
structure StoreOK (P : Program) (os : Oper) (a : Act) (z n : Nat) (vs : List Value) : Prop where
  op : ∃ t p x, os.op = .store t p x ∧ RowT P t n ∧ a.eval p = .pointer (some ⟨z, 0, none⟩) ∧ a.eval x = .agg vs.toArray
  g : os.guard = none
  d : os.dst = none
  l : vs.length = n
  o : vs.all (·.oneCell') = true
end

/-! Which operation stands at the head: asked before a law is tried, so that what does not fit fails at once -/
section
variable {P : Program} {ops : Array Oper} {rest : List Oper} {o : Oper} {a : Act} {w : World} {Q : Exit → Act → World → Prop}
variable {d : Option Tmp} {ty : TypeId} {po : String} {af : Array Edge} {g : Option (Nat × Bool)}
theorem isLoad {t : TypeId} {p : Operand} (h : wpList P ops Q (⟨d, .load t p, ty, po, af, g⟩ :: rest) a w) : wpList P ops Q (⟨d, .load t p, ty, po, af, g⟩ :: rest) a w := h
theorem isStore {t : TypeId} {p x : Operand} (h : wpList P ops Q (⟨d, .store t p x, ty, po, af, g⟩ :: rest) a w) : wpList P ops Q (⟨d, .store t p x, ty, po, af, g⟩ :: rest) a w := h
theorem isBox {t : TypeId} {x : Operand} (h : wpList P ops Q (⟨d, .box t x, ty, po, af, g⟩ :: rest) a w) : wpList P ops Q (⟨d, .box t x, ty, po, af, g⟩ :: rest) a w := h
theorem isAlloc {t : TypeId} (h : wpList P ops Q (⟨d, .alloc t, ty, po, af, g⟩ :: rest) a w) : wpList P ops Q (⟨d, .alloc t, ty, po, af, g⟩ :: rest) a w := h
theorem kLoad {R : Act → Prop} {t : TypeId} {p : Operand} (h : wpKeep P ops w R (⟨d, .load t p, ty, po, af, g⟩ :: rest) a) : wpKeep P ops w R (⟨d, .load t p, ty, po, af, g⟩ :: rest) a := h
theorem kCons {R : Act → Prop} (h : wpKeep P ops w R (o :: rest) a) : wpKeep P ops w R (o :: rest) a := h
theorem wanted_none {y : Nat → Option Bool} (h : o.guard = none) : Region.wanted o y = true := by simp [Region.wanted, h]
end

/-! The results -/
section
variable {P : Program} {fn : Func} {tmps : Array Value} {w0 w : World} {l : Ents}
theorem results_H (H : Hid (Hp w0 w l)) {r : Nat} {t T : TypeId} {b n : Nat} {cs : List Value} (hr : fn.results = #[.cell r t]) (hT : RowT P t n) (hp : tmps.getD r undef = .pointer (some ⟨b, 0, none⟩)) (hm : (b, T, cs) ∈ l) (hl : cs.length = n) :
    (results fn tmps).run P w = .ok (.agg cs.toArray) w := results_B hr hp (H.out.get hm) hT (by simpa using hl)
theorem results_Hv (H : Hid (Hp w0 w l)) {r k : Nat} {t T : TypeId} {b n : Nat} {cs : List Value} {v : Value} (hr : fn.results = #[.cell r t, .tmp k]) (hT : RowT P t n) (hp : tmps.getD r undef = .pointer (some ⟨b, 0, none⟩)) (hm : (b, T, cs) ∈ l) (hv : tmps.getD k undef = v) (hl : cs.length = n) :
    (results fn tmps).run P w = .ok (.tuple #[.agg cs.toArray, v]) w := results_Bv hr hp hv (H.out.get hm) hT (by simpa using hl)
end
end Go.Proofs.YtmfejdikfpckdaaGreatDoor

namespace Go.Proofs.YtmfejdikfpckdaaGreatDoor
open Go.RowKit
set_option linter.unusedVariables false
section
variable {P : Program} {ops : Array Oper} {rest : List Oper} {o : Oper} {a : Act} {w0 w : World} {l l' : Ents} {Q : Exit → Act → World → Prop}
theorem StoreOK.stores {os : Oper} {z m : Nat} {T : TypeId} {cs vs : List Value} (hS : StoreOK P os a z m vs) (hl : cs.length = m) : StoresZ P ops os a z (.cells cs.toArray T (0, 0)) (.cells vs.toArray T (0, 0)) := by
  obtain ⟨t, p, x, ho, hT, hp, hx⟩ := hS.op
  refine ⟨by simp [Region.wanted, hS.g], fun W hW => ?_⟩
  have hk : Blk W z T cs.toArray := hW
  have hvl := hS.l
  have hs : (sizeOf t).run P W = .ok vs.length W := by
    have h3 := hT.s
    cases hq : P.info? t with
    | none => simp [hq] at h3
    | some i =>
      have h4 : i.size = m := by simpa [hq] using h3
      simp [sizeOf, typeInfo, hq, h4, hvl]
  have hr := run_storeAt (P := P) (t := t) hk (by simp [hvl, hl]) (by simpa using hS.o) hs
  refine ⟨W.setCells z 0 vs, ?_, blk_setAll vs hk (by simp [hvl, hl]), (setCells_far vs 0 W).1, (setCells_far vs 0 W).2⟩
  unfold execOp
  rw [ho]
  simp only [hp, hx]
  generalize Instr.storeAt t (.pointer (some ⟨z, 0, none⟩)) (.agg vs.toArray) = I at hr ⊢
  simp [go_sem, hr]
/-- n operations read or call, a block is made, a whole struct stored into it: the reads and calls in any order. -/
theorem wp_region_G {id : Nat} {ol : List Oper} {o1 os : Oper} {t : TypeId} {cs vs : List Value} {m : Nat} (n : Nat) (H : Hid (Hp w0 w l)) (hm : P.follows .mixedOrders = true) (hB : Region.lexTailB .any ol.toArray (n + 2) = true)
    (ho1 : ol[n]? = some o1) (hos : ol[n + 1]? = some os) (hA : Allocs P ol.toArray o1 (.cells cs.toArray t)) (hdep : os.after.any (fun e => Region.binds .any e && e.on == n) = true) (hd : os.dst = none) (hl : cs.length = m)
    (h : wpKeep P ol.toArray w (fun a' => ∀ b, StoreOK P os (a'.put o1.dst (.pointer (some ⟨b, 0, none⟩))) b m vs ∧ ∀ W, Hid (Hp w0 W ((b, t, vs) :: l)) → wpList P ol.toArray Q (ol.drop (n + 2)) (a'.put o1.dst (.pointer (some ⟨b, 0, none⟩))) W) (ol.take n) a) : (Code.region id ol.toArray true).wp P Q a w := by
  refine wp_region_newput n (.cells cs.toArray t (0, 0)) (.cells vs.toArray t (0, 0)) hm hB ho1 hos hA hdep ?_
  have mono : ∀ (l' : List Oper) (a : Act) {R R' : Act → Prop}, (∀ a, R a → R' a) → wpKeep P ol.toArray w R l' a → wpKeep P ol.toArray w R' l' a := by
    intro l'
    induction l' with
    | nil => intro a R R' hR h; exact hR _ h
    | cons o r ih =>
      intro a R R' hR h
      unfold wpKeep at h ⊢
      split
      · rename_i hw
        rw [if_pos hw] at h
        obtain ⟨v, h1, h2⟩ := h
        exact ⟨v, h1, ih _ hR h2⟩
      · rename_i hw
        rw [if_neg hw] at h
        exact ih _ hR h
  refine mono _ a (fun a' h1 z hz => ?_) h
  obtain ⟨hS, h2⟩ := h1 z
  refine ⟨hS.stores hl, fun W hW hW2 => ?_⟩
  have e : (a'.put o1.dst (.pointer (some ⟨z, 0, none⟩))).put os.dst undef = a'.put o1.dst (.pointer (some ⟨z, 0, none⟩)) := by rw [hd]; rfl
  rw [e]
  exact h2 W (H.out.fresh hW hz hW2)
end
end Go.Proofs.YtmfejdikfpckdaaGreatDoor

namespace Go.Proofs.YtmfejdikfpckdaaGreatDoor
open Go.RowKit
set_option linter.unusedVariables false

theorem Hp.drop {w0 w : World} {l : Ents} {x : Nat × TypeId × List Value} (h : Hp w0 w (x :: l)) : Hp w0 w l := ⟨fun y hy => h.blk y (.tail _ hy), (List.nodup_cons.1 h.nd).2, h.bel, h.t0⟩
def ovOf : Ents → Ov
  | [] => fun _ => none
  | (g, t, cs) :: l => (ovOf l).put g (.cells cs.toArray t (0, 0))
theorem ovOf_some {l : Ents} {k : Nat} {b : Obj} (h : ovOf l k = some b) : ∃ x ∈ l, x.1 = k := by
  induction l with
  | nil => cases h
  | cons x l ih =>
    obtain ⟨g, t, cs⟩ := x
    unfold ovOf Ov.put at h
    by_cases hk : k = g
    · exact ⟨_, .head _, hk.symm⟩
    · rw [if_neg hk] at h
      obtain ⟨x, hx, he⟩ := ih h
      exact ⟨x, .tail _ hx, he⟩
theorem ovOf_mem {l : Ents} (hn : (l.map (·.1)).Nodup) {x : Nat × TypeId × List Value} (hx : x ∈ l) : ovOf l x.1 = some (.cells x.2.2.toArray x.2.1 (0, 0)) := by
  induction l with
  | nil => cases hx
  | cons y l ih =>
    obtain ⟨g, t, cs⟩ := y
    rw [List.map_cons, List.nodup_cons] at hn
    unfold ovOf Ov.put
    rcases List.mem_cons.1 hx with rfl | hx
    · rw [if_pos rfl]
    · rw [if_neg (fun e => hn.1 (by rw [← e]; exact List.mem_map.2 ⟨x, hx, rfl⟩))]
      exact ih hn.2 hx
theorem ovOf_mem_b {l : Ents} (hn : (l.map (·.1)).Nodup) {k : Nat} {b : Obj} (h : ovOf l k = some b) : ∃ x ∈ l, x.1 = k ∧ b = .cells x.2.2.toArray x.2.1 (0, 0) := by
  obtain ⟨x, hx, rfl⟩ := ovOf_some h
  have := ovOf_mem hn hx
  rw [h] at this
  injection this with this
  exact ⟨x, hx, rfl, this⟩
theorem ovOf_upd {l l' : Ents} {z : Nat} {T : TypeId} {cs ds : List Value} (h : Upd l z T cs ds l') (hn : (l.map (·.1)).Nodup) : ovOf l' = (ovOf l).put z (.cells ds.toArray T (0, 0)) := by
  induction h with
  | head =>
    rename_i z _ _ _ _
    funext k
    show Ov.put (ovOf _) _ _ k = Ov.put (Ov.put (ovOf _) _ _) _ _ k
    unfold Ov.put
    by_cases hk : k = z
    · rw [if_pos hk, if_pos hk]
    · rw [if_neg hk, if_neg hk, if_neg hk]
  | tail h ih =>
    rename_i z _ _ _ l1 l2 y
    obtain ⟨g, t, es⟩ := y
    rw [List.map_cons, List.nodup_cons] at hn
    have hne : z ≠ g := fun e => hn.1 (by rw [← e]; exact List.mem_map.2 ⟨_, h.mem, rfl⟩)
    show (ovOf l2).put g _ = ((ovOf l1).put g _).put z _
    rw [ih hn.2, Ov.put_comm _ _ _ hne]

section
variable {P : Program} {ops : Array Oper} {rest : List Oper} {o : Oper} {a : Act} {w0 w : World} {l l' : Ents} {Q : Exit → Act → World → Prop} {kd : Nat → Kd} {k : Nat} {R : Act → Ents → Prop}
def YieldsL (P : Program) (ops : Array Oper) (w0 w : World) (l : Ents) (o : Oper) (v : Value) (a : Act) : Prop :=
  (Region.wanted o (yielded ops a.tmps) = true ∧ ∀ W, (ovOf l).ok w W → Hid (Hp w0 W l) → keepsAt P o a W v) ∨ (Region.wanted o (yielded ops a.tmps) = false ∧ v = undef)
/-- The walk over the list of blocks. -/
def wpL (P : Program) (ops : Array Oper) (w0 w : World) (kd : Nat → Kd) (R : Act → Ents → Prop) : Nat → List Oper → Act → Ents → Prop
  | _, [], a, l => R a l
  | k, o :: os, a, l =>
    (kd k = .q ∧ ∃ v, YieldsL P ops w0 w l o v a ∧ wpL P ops w0 w kd R (k + 1) os (a.put o.dst v) l) ∨
    (kd k = .p ∧ ∃ v, YieldsP P ops (fun _ => True) w o v a ∧ wpL P ops w0 w kd R (k + 1) os (a.put o.dst v) l) ∨
    (kd k = .a ∧ ∃ mk t cs, AllocsAt P ops o a mk (.cells cs.toArray t (0, 0)) ∧ ∀ g, wpL P ops w0 w kd R (k + 1) os (a.put o.dst (mk g)) ((g, t, cs) :: l)) ∨
    (kd k = .s ∧ ∃ z T cs ds l', Upd l z T cs ds l' ∧ StoresZ P ops o a z (.cells cs.toArray T (0, 0)) (.cells ds.toArray T (0, 0)) ∧ wpL P ops w0 w kd R (k + 1) os (a.put o.dst undef) l')
theorem wpL_nil (h : R a l) : wpL P ops w0 w kd R k [] a l := h
theorem wpL_A {t : TypeId} {cs : List Value} (hp : kd k = .a) (hA : Allocs P ops o (.cells cs.toArray t)) (h : ∀ g, wpL P ops w0 w kd R (k + 1) rest (a.put o.dst (.pointer (some ⟨g, 0, none⟩))) ((g, t, cs) :: l)) : wpL P ops w0 w kd R k (o :: rest) a l :=
  .inr (.inr (.inl ⟨hp, fun g => .pointer (some ⟨g, 0, none⟩), t, cs, ⟨(hA a w).1, fun W => (hA a W).2⟩, h⟩))
theorem storesZ_part {t T : TypeId} {p x : Operand} {z off c : Nat} {cs vs ds : List Value} (ho : o.op = .store t p x) (hg : o.guard = none) (hT : RowT P t c) (hp : a.eval p = .pointer (some ⟨z, off, none⟩)) (hx : a.eval x = .agg vs.toArray)
    (hl : vs.length = c) (hc : cs.take off ++ vs ++ cs.drop (off + c) = ds) (hk : off + c ≤ cs.length) (h1 : vs.all (·.oneCell') = true) : StoresZ P ops o a z (.cells cs.toArray T (0, 0)) (.cells ds.toArray T (0, 0)) := by
  refine ⟨by simp [Region.wanted, hg], fun W hW => ?_⟩
  have hb : Blk W z T cs.toArray := hW
  have hr := run_storeAt_mid (P := P) W z off t vs.toArray (there_of hb (by simpa [hl] using hk)) (by rw [hT.s]; simp [hl]) (all_oneCell_toArray (by simpa using h1))
  have h2 := blk_splice vs off cs.toArray W hb (by simpa [hl] using hk)
  rw [hl] at h2
  simp only [hc] at h2
  refine ⟨W.setCells z off vs, ?_, h2, (setCells_far vs off W).1, (setCells_far vs off W).2⟩
  unfold execOp
  rw [ho]
  simp only [hp, hx]
  generalize Instr.storeAt t (.pointer (some ⟨z, off, none⟩)) (.agg vs.toArray) = I at hr ⊢
  simp [go_sem, hr]
theorem wpL_S {t T : TypeId} {p x : Operand} {z off c : Nat} {cs vs ds : List Value} (hP : kd k = .s) (ho : o.op = .store t p x) (hg : o.guard = none) (hd : o.dst = none) (hT : RowT P t c) (hp : a.eval p = .pointer (some ⟨z, off, none⟩)) (hx : a.eval x = .agg vs.toArray)
    (hu : Upd l z T cs ds l') (hl : vs.length = c) (hc : cs.take off ++ vs ++ cs.drop (off + c) = ds) (hk : off + c ≤ cs.length) (h2 : vs.all (·.oneCell') = true) (h : wpL P ops w0 w kd R (k + 1) rest a l') : wpL P ops w0 w kd R k (o :: rest) a l :=
  .inr (.inr (.inr ⟨hP, z, T, cs, ds, l', hu, storesZ_part ho hg hT hp hx hl hc hk h2, by rw [hd]; exact h⟩))

theorem Hp.of_ov {W : World} (h : Hp w0 w l) (nd : (l'.map (·.1)).Nodup) (lo : ∀ x ∈ l', w0.heap.size ≤ x.1) (hok : (ovOf l').ok w W) : Hp w0 W l' :=
  ⟨fun x hx => ⟨lo x hx, hok.has _ _ (ovOf_mem nd hx)⟩, nd, h.bel.trans ⟨hok.all.os, hok.all.tape, hok.all.output, hok.all.size, hok.all.drawn, fun k hk => hok.keep k (Nat.lt_of_lt_of_le hk h.bel.size) (by
    cases hu : ovOf l' k with
    | none => rfl
    | some b =>
      obtain ⟨x, hx, he⟩ := ovOf_some hu
      have := lo x hx
      omega)⟩, h.t0⟩
theorem wpU_of (h0 : Hp w0 w l) {R' : Act → Ov → Prop} (os : List Oper) : ∀ (k : Nat) (a : Act) (l1 : Ents), (l1.map (·.1)).Nodup → (∀ x ∈ l1, w0.heap.size ≤ x.1) →
    (∀ a' l2, (l2.map (·.1)).Nodup → (∀ x ∈ l2, w0.heap.size ≤ x.1) → R a' l2 → R' a' (ovOf l2)) → wpL P ops w0 w kd R k os a l1 → wpU P ops (fun _ => True) w kd R' k os a (ovOf l1) := by
  induction os with
  | nil => intro k a l1 nd lo hR h; exact hR a l1 nd lo h
  | cons o os ih =>
    intro k a l1 nd lo hR h
    show Eff P ops (fun _ => True) w o a (ovOf l1) (wpU P ops (fun _ => True) w kd R' (k + 1) os) (kd k)
    rcases h with ⟨hp, v, hy, hK⟩ | ⟨hp, v, hy, hK⟩ | ⟨hp, mk, t, cs, hA, hK⟩ | ⟨hp, z, T, cs, ds, l2, hu, hS, hK⟩
    · rw [hp]
      refine ⟨v, ?_, ih _ _ _ nd lo hR hK⟩
      rcases hy with ⟨y1, y2⟩ | y
      · exact .inl ⟨y1, fun W hW => y2 W hW (Lib.hid (h0.of_ov nd lo hW))⟩
      · exact .inr y
    · rw [hp]
      exact ⟨v, hy, ih _ _ _ nd lo hR hK⟩
    · rw [hp]
      refine ⟨mk, _, hA, fun g hg hf => ih _ _ ((g, t, cs) :: l1) ?_ ?_ hR (hK g)⟩
      · rw [List.map_cons, List.nodup_cons]
        refine ⟨fun hm => ?_, nd⟩
        obtain ⟨x, hx, he⟩ := List.mem_map.1 hm
        have := ovOf_mem nd hx
        rw [he, hf] at this
        cases this
      · intro x hx
        rcases List.mem_cons.1 hx with rfl | hx
        · exact Nat.le_trans h0.bel.size hg
        · exact lo x hx
    · rw [hp]
      have e := ovOf_upd hu nd
      refine ⟨z, _, _, undef, .inl trivial, ovOf_mem nd hu.mem, hS.v, ?_⟩
      rw [← e]
      refine ih _ _ l2 (by rw [hu.fst]; exact nd) ?_ hR hK
      exact hu.all (p := fun x => w0.heap.size ≤ x.1) (q := fun x => w0.heap.size ≤ x.1) nd (fun x _ _ hx => hx) (lo (z, T, cs) hu.mem) lo
/-- The first operations by wpKeep. -/
theorem wpL_pre (H : Hid (Hp w0 w l)) (l1 : List Oper) : ∀ (k : Nat) (a : Act), (∀ j, j < l1.length → kd (k + j) = .q) → wpKeep P ops w (fun a' => wpL P ops w0 w kd R (k + l1.length) rest a' l) l1 a → wpL P ops w0 w kd R k (l1 ++ rest) a l := by
  have hst : (ovOf l).still w := fun k b _ hu => by
    obtain ⟨x, hx, rfl, rfl⟩ := ovOf_mem_b H.out.nd hu
    exact (H.out.blk x hx).2
  induction l1 with
  | nil => intro k a _ h; exact h
  | cons o l1 ih =>
    intro k a hk h
    obtain ⟨v, hy, hK⟩ := yieldsK_of_wpKeep h
    refine .inl ⟨by simpa using hk 0 (by simp), v, ?_, ih (k + 1) _ (fun j hj => by rw [show k + 1 + j = k + (j + 1) by omega]; exact hk (j + 1) (by simp; omega)) (by rw [show k + 1 + l1.length = k + (o :: l1).length by simp only [List.length_cons]; omega]; exact hK)⟩
    rcases hy with ⟨y1, y2⟩ | y
    · exact .inl ⟨y1, fun W hW _ => y2 ⟨W, hW.below hst⟩⟩
    · exact .inr y
theorem wp_region_U {id : Nat} {ol : List Oper} (q N : Nat) (ks : List Kd) (H : Hid (Hp w0 w l)) (hm : P.follows .mixedOrders = true) (hB : Region.lexTailB .any ol.toArray N = true) (hE : edgesU .any ol.toArray (fun k => (List.replicate q Kd.q ++ ks).getD k .q) N = true) (hq : q ≤ N)
    (h : wpKeep P ol.toArray w (fun a' => wpL P ol.toArray w0 w (fun k => (List.replicate q Kd.q ++ ks).getD k .q) (fun a'' l' => ∀ W, Hid (Hp w0 W l') → wpList P ol.toArray Q (ol.drop N) a'' W) q ((ol.drop q).take (N - q)) a' l) (ol.take q) a) : (Code.region id ol.toArray true).wp P Q a w := by
  have hok : (ovOf l).ok w w := ⟨Below.refl 0 w, fun _ _ _ => rfl, fun k b hu => by
    obtain ⟨x, hx, rfl, rfl⟩ := ovOf_mem_b H.out.nd hu
    exact (H.out.blk x hx).2⟩
  have hN : N < ol.length := by
    simp only [Region.lexTailB, Bool.and_eq_true, decide_eq_true_eq] at hB
    simpa using hB.1.1.1.2
  refine wp_region_uni N _ (ovOf l) ⟨w.heap.size, fun g b hu => ?_⟩ hok (fun _ _ _ h _ => absurd trivial h) hm hB hE ?_
  · obtain ⟨x, hx, rfl, _⟩ := ovOf_mem_b H.out.nd hu
    exact H.out.lt hx
  have hs : ol.take N = ol.take q ++ (ol.drop q).take (N - q) := by
    rw [← List.take_append_drop q (ol.take N), List.take_take, Nat.min_eq_left hq, List.drop_take]
  have hql : (ol.take q).length = q := by simp; omega
  rw [hs]
  refine wpU_of (R := fun a'' l' => ∀ W, Hid (Hp w0 W l') → wpList P ol.toArray Q (ol.drop N) a'' W) H.out _ 0 a l H.out.nd (fun x hx => (H.out.blk x hx).1) (fun a'' l2 nd lo hR W hW => hR W (H.out.of_ov nd lo hW)) (wpL_pre H (ol.take q) 0 a (fun j hj => ?_) ?_)
  · rw [hql] at hj
    simp [List.getD_eq_getElem?_getD, List.getElem?_append, hj]
  · rw [hql, Nat.zero_add]
    exact h
end
end Go.Proofs.YtmfejdikfpckdaaGreatDoor

namespace Go.Proofs.YtmfejdikfpckdaaGreatDoor
open Go.RowKit
set_option linter.unusedVariables false

theorem Hp.perm {w0 w : World} {l l2 : Ents} (h : Hp w0 w l) (hp : l.Perm l2) : Hp w0 w l2 := ⟨fun x hx => h.blk x (hp.mem_iff.2 hx), (hp.map (·.1)).nodup_iff.1 h.nd, h.bel, h.t0⟩
theorem Hp.sub {w0 w : World} {l l2 : Ents} (h : Hp w0 w l) (hs : l2.Sublist l) : Hp w0 w l2 := ⟨fun x hx => h.blk x (hs.subset hx), (hs.map (·.1)).nodup h.nd, h.bel, h.t0⟩
theorem Upd.mid (X : Ents) {T : Ents} {g : Nat} {e : TypeId} {cs ds : List Value} : Upd (X ++ (g, e, cs) :: T) g e cs ds (X ++ (g, e, ds) :: T) := by
  induction X with
  | nil => exact .head
  | cons x X ih => exact .tail ih
/-- The block of a slice's row, if it has one. -/
def rowE (v : Value) (e : TypeId) (cur : List Value) : Ents :=
  match v with
  | .slice (some p) _ _ => [(p.block, e, cur)]
  | _ => []
/-- A slice of n elements, xs cell by cell; cur is its whole row. -/
structure RowV (size : Nat) (v : Value) (n : Nat) (xs cur : List Value) : Prop where
  len : xs.length = n * size
  or_ : (v = .slice none 0 0 ∧ n = 0) ∨ ∃ g cap, v = .slice (some ⟨g, 0, none⟩) n cap ∧ n ≤ cap ∧ cap ≤ maxLen ∧ cur.length = cap * size ∧ cur.take (n * size) = xs
theorem RowV.nil (size : Nat) : RowV size (.slice none 0 0) 0 [] [] := ⟨by simp, .inl ⟨rfl, rfl⟩⟩
theorem Hp.cons {w0 w w' : World} {X T : Ents} {t : TypeId} {cs : List Value} (h : Hp w0 w (X ++ T)) (hb : Below w.heap.size w w') (hk : Blk w' w.heap.size t cs.toArray) : Hp w0 w' (X ++ (w.heap.size, t, cs) :: T) :=
  (h.fresh hb (Nat.le_refl _) hk).perm List.perm_middle.symm
/-- Of the blocks that there were only z has changed, or z is new; l' knows of no others than l did, but z. -/
structure Chg (w w' : World) (l l' : Ents) (z : Nat) : Prop where
  all : Below 0 w w'
  old : z = w.heap.size ∨ ∃ x ∈ l, x.1 = z
  lt : z < w'.heap.size
  keep : ∀ k, k < w.heap.size → k ≠ z → w'.heap[k]? = w.heap[k]?
  sub : ∀ x ∈ l', x.1 ≠ z → x ∈ l
section
variable {P : Program} {w0 w : World} {X T : Ents} {e : TypeId} {cur xs : List Value} {v : Value} {n : Nat}
theorem run_append_H (t ty : TypeId) (i : TypeInfo) (z : Value) (ht : P.underlying t = some (.slice e)) (hi : P.info? e = some i) (hz : i.zero = some z) (hzs : z.cells.size = i.size) (hsz : 0 < i.size)
    (H : Hp w0 w (X ++ (rowE v e cur ++ T))) (R : RowV i.size v n xs cur) (b m c : Nat) (news : List Value) (hl : news.length = m * i.size) (hnews : ∀ j u, news[j]? = some u → w.cell? ⟨b, j, none⟩ = some u) (h1 : ∀ u ∈ news, u.oneCell' = true)
    (hm : 0 < m) (h63 : n + m ≤ maxLen) (hbytes : (n + m) * i.bytes ≤ 140737488355328) :
    ∃ v' cur' w', (Builtin.append_ #[t, t] ty #[v, .slice (some ⟨b, 0, none⟩) m c]).run P w = .ok v' w' ∧ RowV i.size v' (n + m) (xs ++ news) cur' ∧ Hp w0 w' (X ++ (rowE v' e cur' ++ T)) ∧ ∃ z, Chg w w' (X ++ (rowE v e cur ++ T)) (X ++ (rowE v' e cur' ++ T)) z := by
  have hsmall : n + m ≤ 9223372036854775807 := by simp only [maxLen] at h63; omega
  have hlen : (xs ++ news).length = (n + m) * i.size := by rw [List.length_append, R.len, hl, Nat.add_mul]
  have hn' : ∀ j u, news[j]? = some u → w.cell? ((⟨b, 0, none⟩ : Addr).add j) = some u := fun j u hu => by rw [Addr.add_lit, Nat.zero_add]; exact hnews j u hu
  -- a new row
  have new : ∀ (old : Nat), (∀ k, X ++ T = k → Hp w0 w k) → ∃ cur' w', w' = w.drew.alloc (.cells (xs.toArray ++ news.toArray ++ Builtin.zeroCells z.cells (grownCap w (n + m) old e - (n + m))) e) ∧
      RowV i.size (.slice (some ⟨w.heap.size, 0, none⟩) (n + m) (grownCap w (n + m) old e)) (n + m) (xs ++ news) cur' ∧ Hp w0 w' (X ++ ((w.heap.size, e, cur') :: T)) ∧ Chg w w' (X ++ (rowE v e cur ++ T)) (X ++ ((w.heap.size, e, cur') :: T)) w.heap.size := fun old hX => by
    have hge := grownCap_ge w (n + m) old e
    have hcm : grownCap w (n + m) old e ≤ maxLen := grownCap_le_maxLen w (n + m) old e h63
    refine ⟨(xs.toArray ++ news.toArray ++ Builtin.zeroCells z.cells (grownCap w (n + m) old e - (n + m))).toList, _, rfl, ⟨hlen, .inr ⟨_, _, rfl, hge, hcm, ?_, ?_⟩⟩, ?_, ?_⟩
    · simp only [Array.length_toList, Array.size_append, List.size_toArray, size_zeroCells, hzs, R.len, hl, ← Nat.add_mul]
      congr 1
      omega
    · simp only [Array.toList_append, List.append_assoc]
      rw [← List.append_assoc, ← hlen]
      exact List.take_left
    rotate_left
    · have hb := ((Below.refl w.heap.size w).drew).alloc (Nat.le_refl _) (.cells (xs.toArray ++ news.toArray ++ Builtin.zeroCells z.cells (grownCap w (n + m) old e - (n + m))) e)
      have hk := Blk.new w.drew e (xs.toArray ++ news.toArray ++ Builtin.zeroCells z.cells (grownCap w (n + m) old e - (n + m)))
      refine ⟨hb.mono (Nat.zero_le _), .inl rfl, hk.lt, fun k hk _ => hb.block k hk, fun x hx hne => ?_⟩
      simp only [List.mem_append, List.mem_cons] at hx ⊢
      rcases hx with hx | rfl | hx
      · exact .inl hx
      · exact absurd rfl hne
      · exact .inr (.inr hx)
    · refine (hX _ rfl).cons (((Below.refl w.heap.size w).drew).alloc (Nat.le_refl _) _) ?_
      have := Blk.new w.drew e (xs.toArray ++ news.toArray ++ Builtin.zeroCells z.cells (grownCap w (n + m) old e - (n + m)))
      rw [Array.toArray_toList]
      exact this
  rcases R.or_ with ⟨rfl, rfl⟩ | ⟨g, cap, rfl, hnc, hcm, hcs, htake⟩
  · have hx : xs = [] := List.eq_nil_of_length_eq_zero (by simpa using R.len)
    subst hx
    have hr := run_append_nil (P := P) w t ty e i z ht hi hz ⟨b, 0, none⟩ m c news hl hn' (by omega) (by omega) (by have hb := hbytes; simp only [Nat.zero_add] at hb; omega)
    obtain ⟨cur', w', rfl, h2, h3, h4⟩ := new 0 (fun k hk => by subst hk; exact H)
    simp only [Nat.zero_add, List.nil_append, Array.empty_append] at h2 h3 h4 ⊢
    exact ⟨_, cur', _, hr, h2, h3, _, h4⟩
  · by_cases hroom : n + m ≤ cap
    · have hb : Blk w g e cur.toArray := (H.blk (g, e, cur) (by simp [rowE])).2
      have hfit : n * i.size + news.length ≤ cur.toArray.size := by simp only [List.size_toArray]; rw [hl, hcs, ← Nat.add_mul]; exact Nat.mul_le_mul_right _ hroom
      have hr := run_append_room (P := P) w t ty e i ht hi g n cap cur.toArray hb ⟨b, 0, none⟩ m c news hl hn' h1 hroom hfit
      refine ⟨_, (cur.toArray.toList.take (n * i.size) ++ news ++ cur.toArray.toList.drop (n * i.size + news.length)), _, hr, ⟨hlen, .inr ⟨g, cap, rfl, hroom, hcm, ?_, ?_⟩⟩, ?_, g, ?_⟩
      · simp only [List.size_toArray] at hfit
        simp only [List.length_append, List.length_take, List.length_drop]
        omega
      · show List.take _ _ = _
        rw [show cur.toArray.toList.take (n * i.size) = xs from htake, ← hlen]
        exact List.take_left
      · have hu : Upd (X ++ ([(g, e, cur)] ++ T)) g e cur (cur.toArray.toList.take (n * i.size) ++ news ++ cur.toArray.toList.drop (n * i.size + news.length)) (X ++ ([(g, e, cur.toArray.toList.take (n * i.size) ++ news ++ cur.toArray.toList.drop (n * i.size + news.length))] ++ T)) := Upd.mid X
        exact H.stored hu ⟨⟨rfl, rfl, rfl, by simp, Nat.le_refl _, fun k hk => absurd hk (by omega)⟩, fun k _ hk => setRow_other w g k _ hk⟩ (setRow_heap w g cur.toArray _ e _ hb)
      · refine ⟨⟨rfl, rfl, rfl, by simp, Nat.le_refl _, fun k hk => absurd hk (by omega)⟩, .inr ⟨(g, e, cur), by simp [rowE], rfl⟩, by simpa using hb.lt, fun k _ hk => setRow_other w g k _ hk, fun x hx hne => ?_⟩
        simp only [rowE, List.mem_append, List.mem_singleton] at hx ⊢
        rcases hx with hx | rfl | hx
        · exact .inl hx
        · exact absurd rfl hne
        · exact .inr (.inr hx)
    · have hb : Blk w g e cur.toArray := (H.blk (g, e, cur) (by simp [rowE])).2
      have holds : ∀ j u, xs[j]? = some u → w.cell? ((⟨g, 0, none⟩ : Addr).add j) = some u := fun j u hu => by
        rw [Addr.add_lit, Nat.zero_add, hb.cell]
        rw [← htake, List.getElem?_take] at hu
        split at hu
        · simpa using hu
        · cases hu
      have hr := run_append_grow (P := P) w t ty e i z ht hi hz ⟨g, 0, none⟩ n cap xs R.len holds ⟨b, 0, none⟩ m c news hl hn' (by omega) (by omega) (growslice_fits (by omega) hbytes)
      obtain ⟨cur', w', rfl, h2, h3, h4⟩ := new cap (fun k hk => by
        subst hk
        exact H.sub (List.Sublist.append (List.Sublist.refl _) (List.sublist_append_right _ _)))
      exact ⟨_, cur', _, hr, h2, h3, _, h4⟩
/-- What a type's row in the table says. -/
structure InfoT (P : Program) (e : TypeId) (size bytes : Nat) : Prop where
  h : ∃ i z, P.info? e = some i ∧ i.zero = some z ∧ i.size = size ∧ i.bytes = bytes ∧ z.cells.size = size
/-- append of what lies in a block of the call's own (a literal's, say) to a slice whose row is the call's own. -/
theorem wpList_appH {ops : Array Oper} {rest : List Oper} {o : Oper} {a : Act} {l : Ents} {Q : Exit → Act → World → Prop} {size bytes b m c : Nat} {t e2 : TypeId} {news : List Value} (X T : Ents) (H : Hid (Hp w0 w l)) (R : Hid (RowV size v n xs cur)) (hl : l = X ++ (rowE v e cur ++ T)) (I : InfoT P e size bytes) (hsz : 0 < size) (ht : P.underlying t = some (.slice e)) (hgd : o.guard = none) {s x : Operand}
    (ho : o.op = .call { callee := .builtin .append, args := #[s, x], argTypes := #[t, t] }) (hs : a.eval s = v) (hx : a.eval x = .slice (some ⟨b, 0, none⟩) m c) (hm : (b, e2, news) ∈ l) (hn : news.length = m * size) (h1 : news.all (·.oneCell') = true) (h0 : 0 < m) (h63 : n + m ≤ maxLen) (hb : (n + m) * bytes ≤ 140737488355328)
    (hK : ∀ v' cur' W', Hid (RowV size v' (n + m) (xs ++ news) cur') → Hid (Hp w0 W' (X ++ (rowE v' e cur' ++ T))) → wpList P ops Q rest (a.put o.dst v') W') : wpList P ops Q (o :: rest) a w := by
  subst hl
  obtain ⟨i, z, hi, hz, rfl, rfl, hzs⟩ := I.h
  have hk := (H.out.get hm).out
  obtain ⟨v', cur', w', hr, h2, h3, _⟩ := run_append_H (P := P) t o.type i z ht hi hz hzs hsz H.out R.out b m c news hn (fun j u hu => by rw [hk.cell]; simpa using hu) (fun u hu => List.all_eq_true.1 h1 u hu) h0 h63 hb
  refine wpList_plain hgd fun _ hK2 => ?_
  unfold Oper.wp execOp
  simp only [ho, resolve, invoke, builtin, Sem.run_bind, Sem.run_pure, Result.andThen_ok, List.map_toArray, List.map_cons, List.map_nil, hs, hx, hr]
  exact hK2 _ _ (hK v' cur' w' (Lib.hid h2) (Lib.hid h3))
end
end Go.Proofs.YtmfejdikfpckdaaGreatDoor

namespace Go.Proofs.YtmfejdikfpckdaaGreatDoor
open Go.RowKit
set_option linter.unusedVariables false
set_option maxRecDepth 100000

theorem flat_take {α : Type} {enc : α → List Value} {k : Nat} (hk : ∀ x, (enc x).length = k) : ∀ {xs : List α} {j : Nat} {x : α}, xs[j]? = some x → ((flat enc xs).drop (k * j)).take k = enc x
  | [], j, x, h => by simp at h
  | y :: ys, 0, x, h => by
    have e : y = x := by simpa using h
    subst e
    show ((enc y ++ flat enc ys).drop (k * 0)).take k = enc y
    rw [Nat.mul_zero, List.drop_zero, ← hk y]
    exact List.take_left
  | y :: ys, j + 1, x, h => by
    have h2 : ys[j]? = some x := by simpa using h
    show ((enc y ++ flat enc ys).drop (k * (j + 1))).take k = enc x
    rw [show k * (j + 1) = (enc y).length + k * j by rw [hk, Nat.mul_succ]; omega, List.drop_length_add_append]
    exact flat_take hk h2
/-- An element of a row lies in the row's block. -/
theorem RowV.at_ {α : Type} {enc : α → List Value} {k n j : Nat} {v : Value} {xs : List α} {cur : List Value} {x : α} (hk : ∀ x, (enc x).length = k) (h : RowV k v n (flat enc xs) cur) (hx : xs[j]? = some x) (hp : 0 < k) : ∃ g cap, v = .slice (some ⟨g, 0, none⟩) n cap ∧ (cur.drop (k * j)).take k = enc x ∧ j < n := by
  have hl : xs.length * k = n * k := by rw [← flat_len hk xs]; exact h.len
  have hn : xs.length = n := Nat.eq_of_mul_eq_mul_right hp hl
  have hj : j < n := by rw [← hn]; exact (List.getElem?_eq_some_iff.1 hx).1
  rcases h.or_ with ⟨_, h0⟩ | ⟨g, cap, rfl, h1, h2, h3, h4⟩
  · omega
  · refine ⟨g, cap, rfl, ?_, hj⟩
    rw [← flat_take hk hx, ← h4, List.drop_take, List.take_take, Nat.min_eq_left]
    have : k * (j + 1) ≤ k * n := Nat.mul_le_mul_left k hj
    rw [Nat.mul_succ] at this
    rw [Nat.mul_comm n k]
    omega
end Go.Proofs.YtmfejdikfpckdaaGreatDoor

namespace Go.Proofs.YtmfejdikfpckdaaGreatDoor
open Go.RowKit
set_option linter.unusedVariables false
set_option maxRecDepth 100000

theorem rRat : RowT Tryz.prog 29 3 := ⟨⟨_, Tryz.underlying29, rfl⟩, by kernel_rfl⟩
theorem rFrame : RowT Tryz.prog 48 10 := ⟨⟨_, Tryz.underlying48, rfl⟩, by kernel_rfl⟩
theorem rVec : RowT Tryz.prog 44 6 := ⟨⟨_, Tryz.underlying44, rfl⟩, by kernel_rfl⟩
theorem rTurn : RowT Tryz.prog 46 4 := ⟨⟨_, Tryz.underlying46, rfl⟩, by kernel_rfl⟩
theorem zRat : (Tryz.prog.info? 29).bind (·.zero) = some (.agg #[.bool false, .string ⟨#[]⟩, .string ⟨#[]⟩]) := by kernel_rfl
theorem zSpan : (Tryz.prog.info? 55).bind (·.zero) = some (.agg #[.bool false, .string ⟨#[]⟩, .string ⟨#[]⟩, .bool false, .string ⟨#[]⟩, .string ⟨#[]⟩]) := by kernel_rfl
theorem zFrame : (Tryz.prog.info? 48).bind (·.zero) = some (.agg #[.bool false, .string ⟨#[]⟩, .string ⟨#[]⟩, .bool false, .string ⟨#[]⟩, .string ⟨#[]⟩, .bool false, .bool false, .string ⟨#[]⟩, .string ⟨#[]⟩]) := by kernel_rfl
theorem zVec : (Tryz.prog.info? 44).bind (·.zero) = some (.agg #[.bool false, .string ⟨#[]⟩, .string ⟨#[]⟩, .bool false, .string ⟨#[]⟩, .string ⟨#[]⟩]) := by kernel_rfl
theorem zTurn : (Tryz.prog.info? 46).bind (·.zero) = some (.agg #[.bool false, .bool false, .string ⟨#[]⟩, .string ⟨#[]⟩]) := by kernel_rfl
theorem kBool : ∃ d, Tryz.prog.underlying 4 = some d ∧ d.isRow = false := ⟨_, Tryz.underlying4, rfl⟩
theorem kStr : ∃ d, Tryz.prog.underlying 9 = some d ∧ d.isRow = false := ⟨_, Tryz.underlying9, rfl⟩
theorem kInt : ∃ d, Tryz.prog.underlying 3 = some d ∧ d.isRow = false := ⟨_, Tryz.underlying3, rfl⟩
end Go.Proofs.YtmfejdikfpckdaaGreatDoor

namespace Go.Proofs.YtmfejdikfpckdaaGreatDoor
open Go.RowKit
set_option linter.unusedVariables false

section
variable {P : Program} {ops : Array Oper} {md : Region.Mode} {w : World} {Z : Nat → Prop}
inductive KdR | q | p | a | s | r (v : Value)
/-! Every order -/
variable {kd : Nat → KdR} {N : Nat}
end

end Go.Proofs.YtmfejdikfpckdaaGreatDoor

namespace Go.Proofs.YtmfejdikfpckdaaGreatDoor
open Go.RowKit
set_option linter.unusedVariables false

theorem Ov.fin.real {U : Ov} (h : U.fin) (w : World) : ∃ W, U.ok w W := by
  obtain ⟨x, hx⟩ := h
  refine ⟨{ w with heap := Array.ofFn (n := w.heap.size + x) (fun k => match U k.1 with | some b => b | none => (w.heap[k.1]?).getD default) }, ⟨rfl, rfl, rfl, by simp, Nat.le_refl _, fun k hk => absurd hk (by omega)⟩, fun k hk hu => ?_, fun k b hu => ?_⟩
  · have hk2 : k < w.heap.size + x := by omega
    simp only [Array.getElem?_ofFn, hk2, dif_pos, hu]
    rw [Array.getElem?_eq_getElem hk]
    rfl
  · have hk2 : k < w.heap.size + x := by have := hx k b hu; omega
    simp only [Array.getElem?_ofFn, hk2, dif_pos, hu]
section
variable {P : Program} {ops : Array Oper} {md : Region.Mode} {w : World} {Z : Nat → Prop}
inductive KdX | q | p | a | s | r (v : Value) | c (v : Value) | x
/-! Every order -/
variable {kd : Nat → KdX} {N : Nat}
end

/-- A further block M, of any kind, that stays as it is. -/
structure Hm (w0 w : World) (M : Nat) (ob : Obj) (l : Ents) : Prop where
  hp : Hp w0 w l
  mp : w.heap[M]? = some ob
  out : ∀ x ∈ l, x.1 ≠ M
section
variable {P : Program} {ops : Array Oper} {rest : List Oper} {o : Oper} {a : Act} {w0 w : World} {l l' : Ents} {Q : Exit → Act → World → Prop} {kd : Nat → KdX} {k : Nat} {R : Act → Ents → Prop} {M : Nat} {ob : Obj}
/-- The list is a view of what is known. -/
structure VwX (w0 w : World) (M : Nat) (U : Ov) (l : Ents) : Prop where
  nd : (l.map (·.1)).Nodup
  at_ : ∀ x ∈ l, U x.1 = some (.cells x.2.2.toArray x.2.1 (0, 0))
  lo : ∀ k b, U k = some b → w0.heap.size ≤ k ∧ k ≠ M
end
end Go.Proofs.YtmfejdikfpckdaaGreatDoor

namespace Go.Proofs.YtmfejdikfpckdaaGreatDoor
open Go.RowKit
set_option linter.unusedVariables false
set_option maxRecDepth 100000

theorem InfoT.of {P : Program} {e : TypeId} {size bytes : Nat} {z : Value} (h1 : (P.info? e).bind (·.zero) = some z) (h2 : (P.info? e).map (fun i => (i.size, i.bytes)) = some (size, bytes)) (h3 : z.cells.size = size) : InfoT P e size bytes := by
  cases hi : P.info? e with
  | none => simp [hi] at h1
  | some i =>
    simp [hi] at h1 h2
    exact ⟨i, z, hi, h1, h2.1, h2.2, h3⟩
theorem RowV.shape {k n : Nat} {v : Value} {xs cur : List Value} (h : RowV k v n xs cur) : ∃ B c, v = .slice B n c ∧ c ≤ maxLen := by
  rcases h.or_ with ⟨rfl, rfl⟩ | ⟨g, cap, rfl, _, h2, _⟩
  · exact ⟨none, 0, rfl, by simp [maxLen]⟩
  · exact ⟨_, _, rfl, h2⟩
section
variable {w0 w w' : World} {l l' : Ents} {M : Nat} {ob : Obj}
/-- What a call has made joins what its caller has. -/
theorem Hp.join {m : Ents} (h : Hp w0 w l) (h2 : Hp w w' m) : Hp w0 w' (m ++ l) := by
  have h3 := h.go h2.bel
  refine ⟨fun x hx => ?_, ?_, h3.bel, h.t0⟩
  · rcases List.mem_append.1 hx with hx | hx
    · exact ⟨Nat.le_trans h.bel.size (h2.blk x hx).1, (h2.blk x hx).2⟩
    · exact h3.blk x hx
  · rw [List.map_append, List.nodup_append]
    refine ⟨h2.nd, h.nd, fun a ha b hb e => ?_⟩
    obtain ⟨x, hx, rfl⟩ := List.mem_map.1 ha
    obtain ⟨y, hy, rfl⟩ := List.mem_map.1 hb
    have := (h2.blk x hx).1
    have := h.lt hy
    omega
end
section
variable {P : Program} {ops : Array Oper} {rest : List Oper} {o : Oper} {a a2 : Act} {w0 w : World} {l l' : Ents} {Q : Exit → Act → World → Prop} {M : Nat} {ob : Obj}
theorem isSlc {d : Option Tmp} {ty : TypeId} {po : String} {af : Array Edge} {g : Option (Nat × Bool)} {t : TypeId} {n : Nat} {ps : Array (Nat × Operand)} (h : wpList P ops Q (⟨d, .buildSlice t n ps, ty, po, af, g⟩ :: rest) a w) : wpList P ops Q (⟨d, .buildSlice t n ps, ty, po, af, g⟩ :: rest) a w := h
theorem isApp {d : Option Tmp} {ty : TypeId} {po : String} {af : Array Edge} {g : Option (Nat × Bool)} {c : Array Operand} {ts : Array TypeId} (h : wpList P ops Q (⟨d, .call { callee := .builtin .append, args := c, argTypes := ts }, ty, po, af, g⟩ :: rest) a w) : wpList P ops Q (⟨d, .call { callee := .builtin .append, args := c, argTypes := ts }, ty, po, af, g⟩ :: rest) a w := h
end
end Go.Proofs.YtmfejdikfpckdaaGreatDoor

namespace Go.Proofs.YtmfejdikfpckdaaGreatDoor
open Go.RowKit
set_option linter.unusedVariables false

theorem wanted_some {o : Oper} {y : Nat → Option Bool} {i : Nat} {b : Bool} (h : o.guard = some (i, b)) (hy : y i = some b) : Region.wanted o y = true := by simp [Region.wanted, h, hy]
theorem wpK_skip {P : Program} {ops : Array Oper} {w : World} {R : Act → Prop} {a : Act} {o : Oper} {rest : List Oper} {i : Nat} {b : Bool} (h : o.guard = some (i, b)) (hy : yielded ops a.tmps i = some (!b)) (hK : wpKeep P ops w R rest (a.put o.dst undef)) : wpKeep P ops w R (o :: rest) a := by
  unfold wpKeep
  rw [if_neg (by simp [Region.wanted, h, hy])]
  exact hK
/-- What is known of the call's own blocks. -/
abbrev Ow := Nat → Option (TypeId × List Value)
structure HU (w0 W : World) (U : Ow) : Prop where
  blk : ∀ k x, U k = some x → w0.heap.size ≤ k ∧ Blk W k x.1 x.2.toArray
  bel : Below w0.heap.size w0 W
  t0 : Tb w0
section
variable {P : Program} {ops : Array Oper} {md : Region.Mode} {w0 : World} {U0 : Ow}
section
variable {oi oj : Oper} {a : Act} {U : Ow} {K : Act → Ow → Prop}
theorem cells_inj {cs cs' : List Value} {t t' : TypeId} (h : Obj.cells cs.toArray t (0, 0) = Obj.cells cs'.toArray t' (0, 0)) : cs = cs' ∧ t = t' := by
  injection h with h1 h2
  exact ⟨by simpa using h1, h2⟩
end
/-! Every order -/
variable {kd : Nat → Kd} {N : Nat}
end

/-! Over the list of blocks -/
theorem upd_of_mem {l : Ents} {z : Nat} {T : TypeId} {cs : List Value} (ds : List Value) (h : (z, T, cs) ∈ l) : ∃ l', Upd l z T cs ds l' := by
  induction l with
  | nil => cases h
  | cons x l ih =>
    rcases List.mem_cons.1 h with rfl | h
    · exact ⟨_, .head⟩
    · obtain ⟨l', hl⟩ := ih h
      exact ⟨_, .tail hl⟩
end Go.Proofs.YtmfejdikfpckdaaGreatDoor

namespace Go.Proofs.YtmfejdikfpckdaaGreatDoor
open Go.RowKit
set_option linter.unusedVariables false

section
variable {P : Program} {ops : Array Oper} {rest : List Oper} {o : Oper} {a a2 : Act} {w0 w : World} {l l' : Ents} {Q : Exit → Act → World → Prop}
theorem ldA (H : Hid (Hp w0 w l)) {t T : TypeId} {p : Operand} {b k n : Nat} {cs ds : List Value} (hK : wpList P ops Q rest a2 w) (ho : o.op = .load t p := by rfl) (hg : Region.wanted o (yielded ops a.tmps) = true := by first | exact wanted_none rfl | exact wanted_some rfl rfl) (hT : RowT P t n := by first | exact rRat | exact rSpan | exact rFrame | exact rVec | exact rTurn | exact rBox | exact rSlot) (hp : a.eval p = .pointer (some ⟨b, k, none⟩) := by rfl)
    (hm : (b, T, cs) ∈ l := by repeat (first | exact List.Mem.head _ | refine List.Mem.tail _ ?_ | assumption)) (hx : (cs.drop k).take n = ds := by (simp only [List.drop, List.take]; rfl)) (hl : ds.length = n := by rfl) (hn : a.put o.dst (.agg ds.toArray) = a2 := by (simp only [Act.put, List.setIfInBounds_toArray, List.set_cons_succ, List.set_cons_zero]; rfl)) : wpList P ops Q (o :: rest) a w :=
  wpList_loadH H ho hg hT hp hm hx hl (by rw [hn]; exact hK)
theorem ld1A (H : Hid (Hp w0 w l)) {t T : TypeId} {p : Operand} {b k : Nat} {cs : List Value} {v : Value} (hK : wpList P ops Q rest a2 w) (ho : o.op = .load t p := by rfl) (hg : Region.wanted o (yielded ops a.tmps) = true := by first | exact wanted_none rfl | exact wanted_some rfl rfl) (hT : ∃ d, P.underlying t = some d ∧ d.isRow = false := by first | exact kBool | exact kStr | exact kInt | exact kStm) (hp : a.eval p = .pointer (some ⟨b, k, none⟩) := by rfl)
    (hm : (b, T, cs) ∈ l := by repeat (first | exact List.Mem.head _ | refine List.Mem.tail _ ?_ | assumption)) (hx : cs[k]? = some v := by rfl) (hn : a.put o.dst v = a2 := by (simp only [Act.put, List.setIfInBounds_toArray, List.set_cons_succ, List.set_cons_zero]; rfl)) : wpList P ops Q (o :: rest) a w :=
  wpList_loadH1 H ho hg hT hp hm hx (by rw [hn]; exact hK)
theorem stA (H : Hid (Hp w0 w l)) {t T : TypeId} {p x : Operand} {b k n : Nat} {cs vs ds : List Value} (hK : ∀ W', Hid (Hp w0 W' l') → wpList P ops Q rest a W') (ho : o.op = .store t p x := by rfl) (hg : o.guard = none := by rfl) (hd : o.dst = none := by rfl) (hT : RowT P t n := by first | exact rRat | exact rSpan | exact rFrame | exact rVec | exact rTurn | exact rBox | exact rSlot) (hp : a.eval p = .pointer (some ⟨b, k, none⟩) := by rfl) (hx : a.eval x = .agg vs.toArray := by rfl)
    (hu : Upd l b T cs ds l' := by repeat (first | apply Upd.head | apply Upd.tail | assumption)) (hl : vs.length = n := by rfl) (hc : cs.take k ++ vs ++ cs.drop (k + n) = ds := by (simp only [List.drop, List.take, List.nil_append, List.cons_append]; rfl)) (hk : k + n ≤ cs.length := by exact Nat.le_of_ble_eq_true rfl) (h1 : vs.all (·.oneCell') = true := by rfl) : wpList P ops Q (o :: rest) a w :=
  wpList_storeH H ho hg hd hT hp hx hu hl hc hk h1 hK
theorem st1A (H : Hid (Hp w0 w l)) {t T : TypeId} {p x : Operand} {b k : Nat} {cs ds : List Value} {v : Value} (hK : ∀ W', Hid (Hp w0 W' l') → wpList P ops Q rest a W') (ho : o.op = .store t p x := by rfl) (hg : o.guard = none := by rfl) (hd : o.dst = none := by rfl) (hT : (P.info? t).map (·.size) = some 1 := by first | exact sBool | exact sStr | exact sInt | exact sStm) (hp : a.eval p = .pointer (some ⟨b, k, none⟩) := by rfl) (hx : a.eval x = v := by rfl)
    (hu : Upd l b T cs ds l' := by repeat (first | apply Upd.head | apply Upd.tail | assumption)) (hc : cs.set k v = ds := by (simp only [List.set_cons_succ, List.set_cons_zero]; rfl)) (hk : k < cs.length := by exact Nat.le_of_ble_eq_true rfl) (h1 : v.oneCell' = true := by rfl) (hv : v.cells = #[v] := by rfl) : wpList P ops Q (o :: rest) a w :=
  wpList_storeH1 H ho hg hd hT hp hx hu hc hk h1 hv hK
theorem bxA (H : Hid (Hp w0 w l)) {t : TypeId} {x : Operand} {d : Tmp} {v : Value} {cs : List Value} {a3 : Nat → Act} (hK : ∀ (b : Nat) W', Hid (Hp w0 W' ((b, t, cs) :: l)) → wpList P ops Q rest (a3 b) W') (ho : o.op = .box t x := by rfl) (hg : o.guard = none := by rfl) (hd : o.dst = some d := by rfl) (hx : a.eval x = v := by (go_simp; rfl)) (hc : v.cells = cs.toArray := by (simp only [Value.cells]; rfl))
    (hn : ∀ b, a.put (some d) (.pointer (some ⟨b, 0, none⟩)) = a3 b := by (intro b; simp only [Act.put, List.setIfInBounds_toArray, List.set_cons_succ, List.set_cons_zero]; rfl)) : wpList P ops Q (o :: rest) a w :=
  wpList_boxH H ho hg hd hx hc fun b W' h => by rw [hn]; exact hK b W' h
theorem alA (H : Hid (Hp w0 w l)) {t : TypeId} {d : Tmp} {z : Value} {cs : List Value} {a3 : Nat → Act} (hK : ∀ (b : Nat) W', Hid (Hp w0 W' ((b, t, cs) :: l)) → wpList P ops Q rest (a3 b) W') (ho : o.op = .alloc t := by rfl) (hg : o.guard = none := by rfl) (hd : o.dst = some d := by rfl) (hz : (P.info? t).bind (·.zero) = some z := by first | exact zRat | exact zSpan | exact zFrame | exact zVec | exact zTurn | exact zBox | exact zStm | exact zSlot) (hc : z.cells = cs.toArray := by (simp only [Value.cells]; rfl))
    (hn : ∀ b, a.put (some d) (.pointer (some ⟨b, 0, none⟩)) = a3 b := by (intro b; simp only [Act.put, List.setIfInBounds_toArray, List.set_cons_succ, List.set_cons_zero]; rfl)) : wpList P ops Q (o :: rest) a w :=
  wpList_allocH H ho hg hd hz hc fun b W' h => by rw [hn]; exact hK b W' h
theorem kldA (H : Hid (Hp w0 w l)) {R : Act → Prop} {t T : TypeId} {p : Operand} {b k n : Nat} {cs ds : List Value} (hK : wpKeep P ops w R rest a2) (ho : o.op = .load t p := by rfl) (hg : Region.wanted o (yielded ops a.tmps) = true := by first | exact wanted_none rfl | exact wanted_some rfl rfl) (hT : RowT P t n := by first | exact rRat | exact rSpan | exact rFrame | exact rVec | exact rTurn | exact rBox | exact rSlot) (hp : a.eval p = .pointer (some ⟨b, k, none⟩) := by rfl)
    (hm : (b, T, cs) ∈ l := by repeat (first | exact List.Mem.head _ | refine List.Mem.tail _ ?_ | assumption)) (hx : (cs.drop k).take n = ds := by (simp only [List.drop, List.take]; rfl)) (hl : ds.length = n := by rfl) (hn : a.put o.dst (.agg ds.toArray) = a2 := by (simp only [Act.put, List.setIfInBounds_toArray, List.set_cons_succ, List.set_cons_zero]; rfl)) : wpKeep P ops w R (o :: rest) a :=
  wpK_loadH H ho hg hT hp hm hx hl (by rw [hn]; exact hK)
theorem kld1A (H : Hid (Hp w0 w l)) {R : Act → Prop} {t T : TypeId} {p : Operand} {b k : Nat} {cs : List Value} {v : Value} (hK : wpKeep P ops w R rest a2) (ho : o.op = .load t p := by rfl) (hg : Region.wanted o (yielded ops a.tmps) = true := by first | exact wanted_none rfl | exact wanted_some rfl rfl) (hT : ∃ d, P.underlying t = some d ∧ d.isRow = false := by first | exact kBool | exact kStr | exact kInt | exact kStm) (hp : a.eval p = .pointer (some ⟨b, k, none⟩) := by rfl)
    (hm : (b, T, cs) ∈ l := by repeat (first | exact List.Mem.head _ | refine List.Mem.tail _ ?_ | assumption)) (hx : cs[k]? = some v := by rfl) (hn : a.put o.dst v = a2 := by (simp only [Act.put, List.setIfInBounds_toArray, List.set_cons_succ, List.set_cons_zero]; rfl)) : wpKeep P ops w R (o :: rest) a :=
  wpK_loadH1 H ho hg hT hp hm hx (by rw [hn]; exact hK)
theorem kskA {R : Act → Prop} {i : Nat} {b : Bool} (hK : wpKeep P ops w R rest a2) (h : o.guard = some (i, b) := by rfl) (hy : yielded ops a.tmps i = some (!b) := by rfl) (hn : a.put o.dst undef = a2 := by (simp only [Act.put, List.setIfInBounds_toArray, List.set_cons_succ, List.set_cons_zero]; rfl)) : wpKeep P ops w R (o :: rest) a :=
  wpK_skip h hy (by rw [hn]; exact hK)
end
end Go.Proofs.YtmfejdikfpckdaaGreatDoor

namespace Go.Proofs.YtmfejdikfpckdaaGreatDoor
open Go.RowKit
set_option linter.unusedVariables false

structure Boxd (p : Prop) : Prop where
  out : p
section
variable {P : Program} {ops : Array Oper} {w : World} {R : Act → Prop}
theorem wpKeep_app (l2 : List Oper) : ∀ (l1 : List Oper) (a : Act), wpKeep P ops w (fun a' => Boxd (wpKeep P ops w R l2 a')) l1 a → wpKeep P ops w R (l1 ++ l2) a
  | [], a, h1 => h1.out
  | o :: r, a, h1 => by
    show wpKeep P ops w R (o :: (r ++ l2)) a
    unfold wpKeep at h1 ⊢
    split
    · rename_i hw
      rw [if_pos hw] at h1
      obtain ⟨v, h2, h3⟩ := h1
      exact ⟨v, h2, wpKeep_app l2 r _ h3⟩
    · rename_i hw
      rw [if_neg hw] at h1
      exact wpKeep_app l2 r _ h1
/-- At operation n. -/
theorem wpKeep_cut (n : Nat) {l : List Oper} {a : Act} (h : wpKeep P ops w (fun a' => Boxd (wpKeep P ops w R (l.drop n) a')) (l.take n) a) : wpKeep P ops w R l a := by
  have := wpKeep_app (l.drop n) (l.take n) a h
  rwa [List.take_append_drop] at this
def putAll (a : Act) : List Oper → Act
  | [] => a
  | o :: r => putAll (a.put o.dst undef) r
theorem yielded_put {a : Act} {i : Nat} {t : Tmp} {d : Option Tmp} {v : Value} (ht : (ops[i]?).bind (·.dst) = some t) (hd : d ≠ some t) : yielded ops (a.put d v).tmps i = yielded ops a.tmps i := by
  cases d with
  | none => rfl
  | some d =>
    unfold yielded
    rw [ht]
    have hne : d ≠ t := fun e => hd (by rw [e])
    simp [Act.put, Array.getElem?_setIfInBounds_ne hne]
theorem wpKeep_skips {i : Nat} {b : Bool} {t : Tmp} (ht : (ops[i]?).bind (·.dst) = some t) (l2 : List Oper) : ∀ (l1 : List Oper) (a : Act), (l1.all fun o => decide (o.guard = some (i, b)) && decide (o.dst ≠ some t)) = true →
    yielded ops a.tmps i = some (!b) → wpKeep P ops w R l2 (putAll a l1) → wpKeep P ops w R (l1 ++ l2) a
  | [], a, _, _, h => h
  | o :: r, a, hl, hy, h => by
    simp only [List.all_cons, Bool.and_eq_true, decide_eq_true_eq] at hl
    obtain ⟨⟨h1, h2⟩, h3⟩ := hl
    exact wpK_skip h1 hy (wpKeep_skips ht l2 r _ h3 (by rw [yielded_put ht h2]; exact hy) h)
/-- Behind a cut: n operations are skipped. -/
theorem boxd_skips (n i : Nat) (b : Bool) {t : Tmp} {l : List Oper} {a : Act} (ht : (ops[i]?).bind (·.dst) = some t) (hl : ((l.take n).all fun o => decide (o.guard = some (i, b)) && decide (o.dst ≠ some t)) = true) (hy : yielded ops a.tmps i = some (!b))
    (h : wpKeep P ops w R (l.drop n) (putAll a (l.take n))) : Boxd (wpKeep P ops w R l a) := by
  have := wpKeep_skips ht (l.drop n) (l.take n) a hl hy h
  rw [List.take_append_drop] at this
  exact ⟨this⟩
end
end Go.Proofs.YtmfejdikfpckdaaGreatDoor

namespace Go.Proofs.YtmfejdikfpckdaaGreatDoor
open Go.RowKit
set_option linter.unusedVariables false
set_option maxRecDepth 100000

section
variable {P : Program} {ops : Array Oper} {rest : List Oper} {o : Oper} {a a2 : Act} {w0 w : World} {l : Ents} {Q : Exit → Act → World → Prop}
/-- A literal slice. -/
theorem bsA (t : TypeId) (cs : List Value) (n : Nat) (H : Hid (Hp w0 w l)) {d : Tmp} {a3 : Nat → Act} (hK : ∀ (b : Nat) W', Hid (Hp w0 W' ((b, t, cs) :: l)) → wpList P ops Q rest (a3 b) W') (hg : Region.wanted o (yielded ops a.tmps) = true := by first | exact wanted_none rfl | exact wanted_some rfl rfl) (hd : o.dst = some d := by rfl)
    (hr : ∀ W : World, (execOp a.eval o).run P W = .ok (.value (.slice (some ⟨W.heap.size, 0, none⟩) n n)) (W.alloc (.cells cs.toArray t)) := by intro W; kernel_rfl)
    (hn : ∀ b, a.put (some d) (.slice (some ⟨b, 0, none⟩) n n) = a3 b := by (intro b; simp only [Act.put, List.setIfInBounds_toArray, List.set_cons_succ, List.set_cons_zero]; rfl)) : wpList P ops Q (o :: rest) a w := by
  unfold wpList
  rw [if_pos hg]
  refine .inl ?_
  unfold Oper.wp
  rw [hr, Oper.upon_value, hd, hn]
  exact hK _ _ (Lib.hid (H.out.fresh ((Below.refl _ _).alloc (Nat.le_refl _) _) (Nat.le_refl _) (Blk.new _ _ _)))
end
theorem kBui {P : Program} {ops : Array Oper} {rest : List Oper} {a : Act} {w : World} {d : Option Tmp} {ty : TypeId} {po : String} {af : Array Edge} {g : Option (Nat × Bool)} {R : Act → Prop} {b : Builtin} {c : Array Operand} {ts : Array TypeId} (h : wpKeep P ops w R (⟨d, .call { callee := .builtin b, args := c, argTypes := ts }, ty, po, af, g⟩ :: rest) a) : wpKeep P ops w R (⟨d, .call { callee := .builtin b, args := c, argTypes := ts }, ty, po, af, g⟩ :: rest) a := h
end Go.Proofs.YtmfejdikfpckdaaGreatDoor

namespace Go.Proofs.YtmfejdikfpckdaaGreatDoor
open Go.RowKit
set_option linter.unusedVariables false
set_option maxRecDepth 100000

end Go.Proofs.YtmfejdikfpckdaaGreatDoor

namespace Go.Proofs.YtmfejdikfpckdaaGreatDoor
open Go.RowKit
set_option linter.unusedVariables false
set_option maxRecDepth 100000

end Go.Proofs.YtmfejdikfpckdaaGreatDoor

namespace Go.Proofs.YtmfejdikfpckdaaGreatDoor
open Go.RowKit
set_option linter.unusedVariables false
set_option maxRecDepth 100000

end Go.Proofs.YtmfejdikfpckdaaGreatDoor

namespace Go.Proofs.YtmfejdikfpckdaaGreatDoor
open Go.RowKit
set_option linter.unusedVariables false
set_option maxRecDepth 100000

end Go.Proofs.YtmfejdikfpckdaaGreatDoor

namespace Go.Proofs.YtmfejdikfpckdaaGreatDoor
open Go.RowKit
set_option linter.unusedVariables false
set_option maxRecDepth 100000

end Go.Proofs.YtmfejdikfpckdaaGreatDoor

namespace Go.Proofs.YtmfejdikfpckdaaGreatDoor
open Go.RowKit
set_option linter.unusedVariables false
set_option maxRecDepth 100000

end Go.Proofs.YtmfejdikfpckdaaGreatDoor

namespace Go.Proofs.YtmfejdikfpckdaaGreatDoor
open Go.RowKit
set_option linter.unusedVariables false
set_option maxRecDepth 100000

end Go.Proofs.YtmfejdikfpckdaaGreatDoor

namespace Go.Proofs.YtmfejdikfpckdaaGreatDoor
open Go.RowKit
set_option linter.unusedVariables false
set_option maxRecDepth 100000

/-- The lesser, the greater: as rat.Min, rat.Max say it. -/
def mn (p q : Rat) : Rat := if p ≤ q then p else q
theorem szEq {k : Nat} {x u : Rat} (h : Hid (x = u)) (hz : Sz k x) : Hid (Sz k u) := by rw [← h.out]; exact hz
end Go.Proofs.YtmfejdikfpckdaaGreatDoor

namespace Go.Proofs.YtmfejdikfpckdaaGreatDoor
open Go.RowKit
set_option linter.unusedVariables false
set_option maxRecDepth 100000

end Go.Proofs.YtmfejdikfpckdaaGreatDoor

namespace Go.Proofs.YtmfejdikfpckdaaGreatDoor
open Go.RowKit
set_option linter.unusedVariables false
set_option maxRecDepth 100000

end Go.Proofs.YtmfejdikfpckdaaGreatDoor

namespace Go.Proofs.YtmfejdikfpckdaaGreatDoor
open Go.RowKit
set_option linter.unusedVariables false
set_option maxRecDepth 100000

end Go.Proofs.YtmfejdikfpckdaaGreatDoor

namespace Go.Proofs.YtmfejdikfpckdaaGreatDoor
open Go.RowKit
set_option linter.unusedVariables false
set_option maxRecDepth 100000

end Go.Proofs.YtmfejdikfpckdaaGreatDoor

namespace Go.Proofs.YtmfejdikfpckdaaGreatDoor
open Go.RowKit
set_option linter.unusedVariables false
set_option maxRecDepth 100000

end Go.Proofs.YtmfejdikfpckdaaGreatDoor

namespace Go.Proofs.YtmfejdikfpckdaaGreatDoor
open Go.RowKit
set_option linter.unusedVariables false
set_option maxRecDepth 100000

end Go.Proofs.YtmfejdikfpckdaaGreatDoor

namespace Go.Proofs.YtmfejdikfpckdaaGreatDoor
open Go.RowKit
set_option linter.unusedVariables false
set_option maxRecDepth 100000

end Go.Proofs.YtmfejdikfpckdaaGreatDoor

namespace Go.Proofs.YtmfejdikfpckdaaGreatDoor
open Go.RowKit
set_option linter.unusedVariables false
set_option maxRecDepth 100000

section
variable {P : Program} {ops : Array Oper} {rest : List Oper} {o : Oper} {a : Act} {w0 w : World} {l : Ents} {Q : Exit → Act → World → Prop}
theorem wpList_newV {t : TypeId} {d : Tmp} {cs : List Value} (mk : Nat → Value) (hg : o.guard = none) (hd : o.dst = some d)
    (hr : ∀ W : World, (execOp a.eval o).run P W = .ok (.value (mk W.heap.size)) (W.alloc (.cells cs.toArray t)))
    (hK : ∀ (b : Nat) W', w.heap.size ≤ b → Below w.heap.size w W' → Hid (Blk W' b t cs.toArray) → wpList P ops Q rest (a.put (some d) (mk b)) W') : wpList P ops Q (o :: rest) a w := by
  unfold wpList
  rw [if_pos (by simp [Region.wanted, hg])]
  refine .inl ?_
  unfold Oper.wp
  rw [hr, Oper.upon_value, hd]
  exact hK _ _ (Nat.le_refl _) ((Below.refl w.heap.size w).alloc (Nat.le_refl _) _) (Lib.hid (Blk.new w t cs.toArray))
theorem isSlice {d : Option Tmp} {ty : TypeId} {po : String} {af : Array Edge} {g : Option (Nat × Bool)} {t : TypeId} {n : Nat} {ps : Array (Nat × Operand)} (h : wpList P ops Q (⟨d, .buildSlice t n ps, ty, po, af, g⟩ :: rest) a w) : wpList P ops Q (⟨d, .buildSlice t n ps, ty, po, af, g⟩ :: rest) a w := h
theorem wpList_sliceH (H : Hid (Hp w0 w l)) (T : TypeId) (cs : List Value) (n : Nat) {d : Tmp} (hg : o.guard = none) (hd : o.dst = some d)
    (hr : ∀ W : World, (execOp a.eval o).run P W = .ok (.value (.slice (some ⟨W.heap.size, 0, none⟩) n n)) (W.alloc (.cells cs.toArray T)))
    (hK : ∀ (b : Nat) W', Hid (Hp w0 W' ((b, T, cs) :: l)) → wpList P ops Q rest (a.put (some d) (.slice (some ⟨b, 0, none⟩) n n)) W') : wpList P ops Q (o :: rest) a w :=
  wpList_newV (fun b => .slice (some ⟨b, 0, none⟩) n n) hg hd hr fun b W' h1 h2 h3 => hK b W' (H.out.fresh h2 h1 h3.out)
end
end Go.Proofs.YtmfejdikfpckdaaGreatDoor

namespace Go.Proofs.YtmfejdikfpckdaaGreatDoor
open Go.RowKit
set_option linter.unusedVariables false

/-- What a stream still holds: where, how many cells, which numbers. -/
structure Sd where
  A : Option Addr
  c : Nat
  xs : List Int
def Sd.v (S : Sd) : Value := .slice S.A S.xs.length S.c
def Sd.nx (S : Sd) (n : Int) : Int := match S.xs with
  | [] => 0
  | x :: _ => x % n
def Sd.sn (S : Sd) : Sd := match S.xs with
  | [] => S
  | x :: xs => ⟨if S.c = 1 then S.A else S.A.map (fun p => ⟨p.block, p.off + 1, none⟩), S.c - 1, xs⟩
/-- The numbers lie in what was there before the call. -/
structure Sd.ok (S : Sd) (w0 : World) : Prop where
  le : S.xs.length ≤ S.c
  mx : S.c ≤ maxLen
  at_ : 0 < S.xs.length → ∃ b' o, S.A = some ⟨b', o, none⟩ ∧ b' < w0.heap.size ∧ ∀ (j : Nat) (x : Int), S.xs[j]? = some x → w0.cell? ⟨b', o + j, none⟩ = some (.int .i64 x)
  rg : ∀ x ∈ S.xs, -9223372036854775808 ≤ x ∧ x ≤ 9223372036854775807
theorem Sd.ok.next {S : Sd} {w0 : World} (h : S.ok w0) : S.sn.ok w0 := by
  obtain ⟨A, c, xs⟩ := S
  rcases xs with _ | ⟨x, xs⟩
  · exact h
  · have h1 : xs.length + 1 ≤ c := h.le
    have h2 : c ≤ maxLen := h.mx
    refine ⟨?_, ?_, fun hp => ?_, fun y hy => h.rg y (List.mem_cons_of_mem _ hy)⟩
    · show xs.length ≤ c - 1
      omega
    · show c - 1 ≤ maxLen
      omega
    · obtain ⟨b', o, hA, hb, hc⟩ := h.at_ (by simp)
      have hA' : A = some ⟨b', o, none⟩ := hA
      have hp' : 0 < xs.length := hp
      refine ⟨b', o + 1, ?_, hb, fun j y hj => ?_⟩
      · show (if c = 1 then A else A.map _) = _
        rw [if_neg (by omega), hA']
        rfl
      · have hj' : xs[j]? = some y := hj
        have := hc (j + 1) y (by simpa using hj')
        rwa [show o + 1 + j = o + (j + 1) by omega]
theorem Sd.nx_bd (S : Sd) (n : Int) (h : 1 ≤ n) : 0 ≤ S.nx n ∧ S.nx n < n := by
  unfold Sd.nx
  split
  · omega
  · exact ⟨Int.emod_nonneg _ (by omega), Int.emod_lt_of_pos _ (by omega)⟩
theorem Sd.of_arg {w w0 : World} {A : Option Addr} {n c : Nat} {xs : List Int} (h : IntArg w0 A n c xs) : (⟨A, c, xs⟩ : Sd).ok w0 := by
  obtain ⟨rfl, h2, h3, h4, h5⟩ := h
  exact ⟨h2, h3, fun hp => h4 hp, h5⟩
theorem Upd.same_aux {l l' : Ents} {z : Nat} {T : TypeId} {cs ds : List Value} (h : Upd l z T cs ds l') : cs = ds → l' = l := by
  induction h with
  | head => intro hd; rw [hd]
  | tail h ih => intro hd; rw [ih hd]
theorem Upd.same {l l' : Ents} {z : Nat} {T : TypeId} {cs : List Value} (h : Upd l z T cs cs l') : l' = l := h.same_aux rfl
theorem Hp.set1 {w0 w : World} {l l' : Ents} {b : Nat} {T : TypeId} {u v : Value} (h : Hp w0 w l) (hu : Upd l b T [u] [v] l') : Hp w0 (w.setCell ⟨b, 0, none⟩ v) l' := by
  have hb := (h.blk _ hu.mem).2
  exact h.stored hu ⟨(Below.refl 0 w).setCell (Nat.zero_le _) v, fun k _ hk => Below.heap_setCell w ⟨b, 0, none⟩ v k hk⟩ (by have := hb.set_ 0 v; simpa using this)

set_option maxHeartbeats 400000 in
theorem nextH_any {w0 w : World} {m m' : Ents} (S : Sd) (b : Nat) (n : Int) (H : Hid (Hp w0 w m)) (hS : Hid (S.ok w0)) (hu : Hid (Upd m b 93 [S.v] [S.sn.v] m')) (h1 : 1 ≤ n) (h3 : n ≤ 9223372036854775807) :
    Calls Tryz.prog 47 #[.pointer (some ⟨b, 0, none⟩), .int .i64 n] w fun e w' => e = .returned (.int .i64 (S.nx n)) ∧ Hp w0 w' m' := by
  have hB : Blk w b 93 #[S.v] := (H.out.blk _ hu.out.mem).2
  have hc := hB.cell 0
  have hfz := hB.frozen 0
  obtain ⟨A, c, xs⟩ := S
  rcases xs with _ | ⟨x, xs⟩
  · simp only [Sd.v, List.length_nil] at hc
    clear hB
    go_enter Tryz.func47, Tryz.ntmps47
    go_wp2
    go_ret
    have e := hu.out.same
    subst e
    exact ⟨rfl, H.out⟩
  · obtain ⟨b', o, hA, hb', hcell⟩ := hS.out.at_ (by simp)
    have hA' : A = some ⟨b', o, none⟩ := hA
    subst hA'
    have hcw : w.cell? ⟨b', o, none⟩ = some (.int .i64 x) := by
      rw [H.out.bel.cell (p := ⟨b', o, none⟩) hb']
      exact hcell 0 x (by simp)
    have hxb := hS.out.rg x (by simp)
    have hl' : xs.length + 1 ≤ c := hS.out.le
    have hm : c ≤ maxLen := hS.out.mx
    obtain ⟨hx1, hx2⟩ := hxb
    have Hset := Lib.hid (H.out.set1 hu.out)
    clear hcell hS hu H hA
    simp only [Sd.v, List.length_cons] at hc
    have hd : decide (n < 1) = false := by simp; omega
    have HB := Lib.hid hB; clear hB
    generalize hk : xs.length = k at *
    have Hk := Lib.hid hk; clear hk
    go_enter Tryz.func47, Tryz.ntmps47
    go_wp2_with (go_at_call 8; refine (below_any _ _ _ (by omega) hx1 hx2 (by omega)).mono ?_; rintro e w' ⟨rfl, rfl⟩)
    all_goals
      go_ret
      refine ⟨rfl, ?_⟩
      have h := Hset.out
      simp only [Sd.sn, Sd.v] at h
      first | (rw [if_neg (by omega)] at h; rw [Hk.out] at h; exact h) | (have hc1 : c = 1 := (by omega); subst hc1; rw [Hk.out] at h; simpa using h)
/-- gantmake.Of as a rational. -/
def ofQ (num : Int) (den : Nat) : Rat := mkRat num den
theorem ofQ_mkR (num : Int) (den : Nat) : ofQ num den = mkR (decide (num < 0)) num.natAbs den := by
  unfold ofQ mkR
  congr 1
  by_cases h : num < 0
  · simp [h]; omega
  · simp [h]; omega
theorem ratOf_q (num : Int) (den : Nat) (hd : 0 < den) : ratOf num den = #[.bool (sgO (some (ofQ num den))), .string (nuO (some (ofQ num den))), .string (deO (some (ofQ num den)))] := by
  unfold ratOf
  by_cases h0 : num = 0
  · subst h0
    have e : ofQ 0 den = 0 := by unfold ofQ; simp
    rw [e]
    simp [sgO, nuO, deO, nS, Nat.div_self hd]
  · obtain ⟨c1, c2, c3⟩ := mkR_cells (neg := decide (num < 0)) (n := num.natAbs) (d := den) (by omega) hd rfl
    rw [← ofQ_mkR] at c1 c2 c3
    rw [c1, c2, c3]
    rfl
theorem ofQ_sz (num : Int) (den k : Nat) (h1 : num.natAbs < 256 ^ k) (h2 : den < 256 ^ k) (hd : 0 < den) : Sz k (ofQ num den) := by
  rw [ofQ_mkR]
  have h := mkR_le (decide (num < 0)) (n := num.natAbs) hd
  exact ⟨Nat.lt_of_le_of_lt h.1 h1, Nat.lt_of_le_of_lt h.2 h2⟩
theorem ofQ_any (num : Int) (den : Nat) (q : Rat) (w : World) (h1 : -1000000000 ≤ num) (h2 : num ≤ 1000000000) (h3 : 0 < den) (h4 : den ≤ 1000000000) (E : Hid (ofQ num den = q)) :
    Calls Tryz.prog 52 #[.int .i64 num, .int .i64 den] w fun e w' => e = .returned (.agg #[.bool (sgO (some q)), .string (nuO (some q)), .string (deO (some q))]) ∧ Below w.heap.size w w' := by
  have h := of_any num den w (by omega) (by omega) h3 (by omega)
  rw [ratOf_q num den h3, E.out] at h
  exact h
end Go.Proofs.YtmfejdikfpckdaaGreatDoor

namespace Go.Proofs.YtmfejdikfpckdaaGreatDoor
open Go.RowKit
set_option linter.unusedVariables false
set_option maxRecDepth 100000

end Go.Proofs.YtmfejdikfpckdaaGreatDoor

namespace Go.Proofs.YtmfejdikfpckdaaGreatDoor
open Go.RowKit
set_option linter.unusedVariables false
set_option maxRecDepth 100000

end Go.Proofs.YtmfejdikfpckdaaGreatDoor

namespace Go.Proofs.YtmfejdikfpckdaaGreatDoor
open Go.RowKit
set_option linter.unusedVariables false
set_option maxRecDepth 100000

end Go.Proofs.YtmfejdikfpckdaaGreatDoor

namespace Go.Proofs.YtmfejdikfpckdaaGreatDoor
open Go.RowKit
set_option linter.unusedVariables false
set_option maxRecDepth 100000

end Go.Proofs.YtmfejdikfpckdaaGreatDoor

namespace Go.Proofs.YtmfejdikfpckdaaGreatDoor
open Go.RowKit
set_option linter.unusedVariables false
set_option maxRecDepth 100000

theorem Sd.ok.below {S : Sd} {w0 W : World} (h : S.ok w0) (hb : Below w0.heap.size w0 W) : S.ok W := ⟨h.le, h.mx, fun hp => by
  obtain ⟨b', o, h1, h2, h3⟩ := h.at_ hp
  exact ⟨b', o, h1, Nat.lt_of_lt_of_le h2 hb.size, fun j x hx => (hb.cell (p := ⟨b', o + j, none⟩) h2).trans (h3 j x hx)⟩, h.rg⟩
def Sd.s2 (S : Sd) : Sd := S.sn.sn
theorem Sd.ok.s2 {S : Sd} {w0 : World} (h : S.ok w0) : S.s2.ok w0 := h.next.next
end Go.Proofs.YtmfejdikfpckdaaGreatDoor

namespace Go.Proofs.YtmfejdikfpckdaaGreatDoor
open Go.RowKit
set_option linter.unusedVariables false
set_option maxRecDepth 100000

end Go.Proofs.YtmfejdikfpckdaaGreatDoor

namespace Go.Proofs.YtmfejdikfpckdaaGreatDoor
open Go.RowKit
set_option linter.unusedVariables false
set_option maxRecDepth 100000

end Go.Proofs.YtmfejdikfpckdaaGreatDoor

namespace Go.Proofs.YtmfejdikfpckdaaGreatDoor
open Go.RowKit
set_option linter.unusedVariables false
set_option maxRecDepth 100000

end Go.Proofs.YtmfejdikfpckdaaGreatDoor

namespace Go.Proofs.YtmfejdikfpckdaaGreatDoor
open Go.RowKit
set_option linter.unusedVariables false
set_option maxRecDepth 100000

/-- A pose with good spans of small numbers. -/
structure PoseF (k : Nat) (a1 b1 a2 b2 a3 b3 : Rat) : Prop where
  l1 : a1 ≤ b1
  l2 : a2 ≤ b2
  l3 : a3 ≤ b3
  za1 : Sz k a1
  zb1 : Sz k b1
  za2 : Sz k a2
  zb2 : Sz k b2
  za3 : Sz k a3
  zb3 : Sz k b3
end Go.Proofs.YtmfejdikfpckdaaGreatDoor

namespace Go.Proofs.YtmfejdikfpckdaaGreatDoor
open Go.RowKit
set_option linter.unusedVariables false
set_option maxRecDepth 100000

end Go.Proofs.YtmfejdikfpckdaaGreatDoor

namespace Go.Proofs.YtmfejdikfpckdaaGreatDoor
open Go.RowKit
set_option linter.unusedVariables false
set_option maxRecDepth 100000

theorem mn_self (p : Rat) : mn p p = p := by unfold mn; split <;> rfl
/-- Cosine and sine of a turn by its tangent of the half. -/
def cosQ (v : Rat) : Rat := (((1 : Int) : Rat) - v * v) / (((1 : Int) : Rat) + v * v)
def sinQ (v : Rat) : Rat := (v + v) / (((1 : Int) : Rat) + v * v)
theorem onesq_pos (v : Rat) : 0 < ((1 : Int) : Rat) + v * v := by
  have h : (0 : Rat) ≤ v * v := by
    rcases (Rat.le_total : (0 : Rat) ≤ v ∨ v ≤ 0) with h | h
    · exact Rat.mul_nonneg h h
    · have h2 : 0 ≤ -v := by grind
      have := Rat.mul_nonneg h2 h2
      grind
  have e : ((1 : Int) : Rat) = 1 := rfl
  rw [e]
  grind
theorem onesq_ne (v : Rat) : ((1 : Int) : Rat) + v * v ≠ 0 := fun h => by have := onesq_pos v; rw [h] at this; exact absurd this (by decide)
theorem Sz.cosQ {k : Nat} {v : Rat} (h : Sz k v) : Sz (4 * k + 8) (cosQ v) := (Sz.div (Sz.sub (Sz.int 1 (by decide)) (h.mul h)) (Sz.add (Sz.int 1 (by decide)) (h.mul h)) (onesq_ne v)).mono (by omega)
theorem Sz.sinQ {k : Nat} {v : Rat} (h : Sz k v) : Sz (4 * k + 8) (sinQ v) := (Sz.div (h.add h) (Sz.add (Sz.int 1 (by decide)) (h.mul h)) (onesq_ne v)).mono (by omega)
def rotX (v x y : Rat) : Rat := x * cosQ v - y * sinQ v
def rotY (v x y : Rat) : Rat := x * sinQ v + y * cosQ v
end Go.Proofs.YtmfejdikfpckdaaGreatDoor

namespace Go.Proofs.YtmfejdikfpckdaaGreatDoor
open Go.RowKit
set_option linter.unusedVariables false
set_option maxRecDepth 100000

structure Spn (k : Nat) (a b : Option Rat) (p q : Rat) : Prop where
  sa : SmO a
  sb : SmO b
  n : nmS a b = (p, q)
  zp : Sz k p
  zq : Sz k q
end Go.Proofs.YtmfejdikfpckdaaGreatDoor

namespace Go.Proofs.YtmfejdikfpckdaaGreatDoor
open Go.RowKit
set_option linter.unusedVariables false
set_option maxRecDepth 100000

end Go.Proofs.YtmfejdikfpckdaaGreatDoor

namespace Go.Proofs.YtmfejdikfpckdaaGreatDoor
open Go.RowKit
set_option linter.unusedVariables false
set_option maxRecDepth 100000

end Go.Proofs.YtmfejdikfpckdaaGreatDoor

namespace Go.Proofs.YtmfejdikfpckdaaGreatDoor
open Go.RowKit
set_option linter.unusedVariables false
set_option maxRecDepth 100000

end Go.Proofs.YtmfejdikfpckdaaGreatDoor

namespace Go.Proofs.YtmfejdikfpckdaaGreatDoor
open Go.RowKit
set_option linter.unusedVariables false
set_option maxRecDepth 100000

end Go.Proofs.YtmfejdikfpckdaaGreatDoor

namespace Go.Proofs.YtmfejdikfpckdaaGreatDoor
open Go.RowKit
set_option linter.unusedVariables false
set_option maxRecDepth 100000

end Go.Proofs.YtmfejdikfpckdaaGreatDoor

namespace Go.Proofs.YtmfejdikfpckdaaGreatDoor
open Go.RowKit
set_option linter.unusedVariables false
set_option maxRecDepth 100000

end Go.Proofs.YtmfejdikfpckdaaGreatDoor

namespace Go.Proofs.YtmfejdikfpckdaaGreatDoor
open Go.RowKit
set_option linter.unusedVariables false
set_option maxRecDepth 100000

set_option maxHeartbeats 4000000 in
theorem turnOf_any {k : Nat} (r : Option Rat) (v : Rat) (w : World) (hk : k ≤ 9000) (Zr : Hid (SzO k r)) (Ev : Hid (valO r = v)) (hT : Tb w) :
    Calls Tryz.prog 93 #[.agg #[.bool (sgO r), .string (nuO r), .string (deO r)]] w fun e w' => e = .returned (.agg #[.bool false, .bool (sgO (some v)), .string (nuO (some v)), .string (deO (some v))]) ∧ Below w.heap.size w w' := by
  have H := Lib.hid (Hp.start hT)
  clear hT
  have Sr : Hid (SmO r) := SzO.sm Zr (by omega)
  have Zv : Hid (Sz k v) := szEq Ev (Zr)
  have Sv : Hid (SmO (some v)) := Sz.o Zv (by omega)
  have M : Hid (mn (valO r) (valO r) = v) := by unfold Hid; rw [mn_self]; exact Ev.out
  go_enter Tryz.func93, Tryz.ntmps93
  go_wp2_with (first
      | ((with_reducible refine isLoad ?_); refine ldA H ?_)
      | ((with_reducible refine isBox ?_); refine bxA H ?_; clear H; intro _ _ H)
      | ((with_reducible refine isAlloc ?_); refine alA H ?_; clear H; intro _ _ H))
  refine (RMin_any r r v _ Sr Sr M H.out.tb).mono ?_
  rintro _ _ ⟨rfl, hb⟩
  replace H := Lib.hid (H.out.go hb)
  clear hb
  go_wp2_with (first
      | ((with_reducible refine isStore ?_); refine stA H ?_; clear H; intro _ H))
  exact bodyPost_ret (results_H H Tryz.results93 (by (first | exact rRat | exact rSpan | exact rFrame | exact rVec | exact rTurn | exact rBox)) rfl (by (repeat (first | exact List.Mem.head _ | refine List.Mem.tail _ ?_ | assumption))) (by rfl)) rfl ⟨rfl, H.out.bel⟩
end Go.Proofs.YtmfejdikfpckdaaGreatDoor

namespace Go.Proofs.YtmfejdikfpckdaaGreatDoor
open Go.RowKit
set_option linter.unusedVariables false
set_option maxRecDepth 100000

set_option maxHeartbeats 4000000 in
theorem turnFit_any {k : Nat} (r : Option Rat) (v : Rat) (w : World) (hk : k ≤ 9000) (Zr : Hid (SzO k r)) (Ev : Hid (valO r = v)) (hT : Tb w) :
    Calls Tryz.prog 92 #[.agg #[.bool false, .bool (sgO r), .string (nuO r), .string (deO r)]] w fun e w' => e = .returned (.agg #[.bool false, .bool (sgO (some v)), .string (nuO (some v)), .string (deO (some v))]) ∧ Below w.heap.size w w' := by
  have H := Lib.hid (Hp.start hT)
  clear hT
  have Sr : Hid (SmO r) := SzO.sm Zr (by omega)
  have Zv : Hid (Sz k v) := szEq Ev (Zr)
  have Sv : Hid (SmO (some v)) := Sz.o Zv (by omega)
  go_enter Tryz.func92, Tryz.ntmps92
  go_wp2_with (first
      | ((with_reducible refine isLoad ?_); refine ldA H ?_)
      | ((with_reducible refine isLoad ?_); refine ld1A H ?_)
      | ((with_reducible refine isBox ?_); refine bxA H ?_; clear H; intro _ _ H)
      | ((with_reducible refine isAlloc ?_); refine alA H ?_; clear H; intro _ _ H))
  refine (turnOf_any r v _ (by omega) Zr Ev H.out.tb).mono ?_
  rintro _ _ ⟨rfl, hb⟩
  replace H := Lib.hid (H.out.go hb)
  clear hb
  go_wp2_with (first
      | ((with_reducible refine isStore ?_); refine stA H ?_; clear H; intro _ H))
  exact bodyPost_ret (results_H H Tryz.results92 (by (first | exact rRat | exact rSpan | exact rFrame | exact rVec | exact rTurn | exact rBox)) rfl (by (repeat (first | exact List.Mem.head _ | refine List.Mem.tail _ ?_ | assumption))) (by rfl)) rfl ⟨rfl, H.out.bel⟩
end Go.Proofs.YtmfejdikfpckdaaGreatDoor

namespace Go.Proofs.YtmfejdikfpckdaaGreatDoor
open Go.RowKit
set_option linter.unusedVariables false
set_option maxRecDepth 100000

set_option maxHeartbeats 4000000 in
theorem turnCos_any {k : Nat} (r : Option Rat) (u : Rat) (w : World) (hk : k ≤ 1000) (Zr : Hid (SzO k r)) (Fu : Hid (cosQ (valO r) = u)) (hT : Tb w) :
    Calls Tryz.prog 107 #[.agg #[.bool false, .bool (sgO r), .string (nuO r), .string (deO r)]] w fun e w' => e = .returned (.agg #[.bool (sgO (some u)), .string (nuO (some u)), .string (deO (some u))]) ∧ Below w.heap.size w w' := by
  have H := Lib.hid (Hp.start hT)
  clear hT
  have Sr : Hid (SmO r) := SzO.sm Zr (by omega)
  obtain ⟨v, Ev⟩ : ∃ z : Rat, Hid (valO r = z) := ⟨_, rfl⟩
  have Zv : Hid (Sz k v) := szEq Ev (Zr)
  have Sv : Hid (SmO (some v)) := Sz.o Zv (by omega)
  obtain ⟨qq, Eqq⟩ : ∃ z : Rat, Hid (v * v = z) := ⟨_, rfl⟩
  have Zqq : Hid (Sz (k + k) qq) := szEq Eqq (Sz.mul Zv Zv)
  have Sqq : Hid (SmO (some qq)) := Sz.o Zqq (by omega)
  obtain ⟨o, Eo⟩ : ∃ z : Rat, Hid (((1 : Int) : Rat) = z) := ⟨_, rfl⟩
  have Zo : Hid (Sz 3 o) := szEq Eo (Sz.int (1) (by decide))
  have So : Hid (SmO (some o)) := Sz.o Zo (by omega)
  obtain ⟨n, En⟩ : ∃ z : Rat, Hid (o - qq = z) := ⟨_, rfl⟩
  have Zn : Hid (Sz (3 + (k + k) + 1) n) := szEq En (Sz.sub Zo Zqq)
  have Sn : Hid (SmO (some n)) := Sz.o Zn (by omega)
  obtain ⟨d, Ed⟩ : ∃ z : Rat, Hid (o + qq = z) := ⟨_, rfl⟩
  have Zd : Hid (Sz (3 + (k + k) + 1) d) := szEq Ed (Sz.add Zo Zqq)
  have Sd : Hid (SmO (some d)) := Sz.o Zd (by omega)
  have Nd : Hid (valO (some d) ≠ 0) := by have h1 := Eqq.out; have h2 := Ed.out; have h3 := Eo.out; subst_vars; exact onesq_ne _
  have Eu : Hid (n / d = u) := by have h0 := Fu.out; have h1 := Ev.out; have h2 := Eqq.out; have h3 := Eo.out; have h4 := En.out; have h5 := Ed.out; subst_vars; rfl
  have Zu : Hid (Sz ((3 + (k + k) + 1) + (3 + (k + k) + 1)) u) := szEq Eu (Sz.div Zn Zd Nd)
  have Su : Hid (SmO (some u)) := Sz.o Zu (by omega)
  go_enter Tryz.func107, Tryz.ntmps107
  go_wp2_with (first
      | ((with_reducible refine isLoad ?_); refine ldA H ?_)
      | ((with_reducible refine isBox ?_); refine bxA H ?_; clear H; intro _ _ H)
      | ((with_reducible refine isAlloc ?_); refine alA H ?_; clear H; intro _ _ H))
  refine (turnFit_any r v _ (by omega) Zr Ev H.out.tb).mono ?_
  rintro _ _ ⟨rfl, hb⟩
  replace H := Lib.hid (H.out.go hb)
  clear hb
  go_wp2_with (first
      | ((with_reducible refine isLoad ?_); refine ldA H ?_)
      | ((with_reducible refine isLoad ?_); refine ld1A H ?_)
      | ((with_reducible refine isStore ?_); refine stA H ?_; clear H; intro _ H))
  refine (RMul_any (some v) (some v) qq _ Sv Sv Eqq H.out.tb).mono ?_
  rintro _ _ ⟨rfl, hb⟩
  replace H := Lib.hid (H.out.go hb)
  clear hb
  go_wp2_with (first
      | ((with_reducible refine isStore ?_); refine stA H ?_; clear H; intro _ H)
      | ((with_reducible refine isAlloc ?_); refine alA H ?_; clear H; intro _ _ H))
  refine wp_region_G (vs := [.bool (sgO (some u)), .string (nuO (some u)), .string (deO (some u))]) 10 H (by kernel_rfl) (by kernel_rfl) rfl rfl (by simp [Allocs, go_sem]; intro _ _; rfl) (by kernel_rfl) rfl rfl ?_
  simp only [List.take_succ_cons, List.take_zero, List.drop_succ_cons, List.drop_zero]
  refine wpK_step (fun K hK => ?_)
  go_simp
  apply Exists.intro
  refine ⟨fun sx => ?_, hK _ ?_⟩
  · go_at_call 22
    exact ROf_any (1) o _ (by decide) (by decide) Eo (H.out.tbx sx)
  clear hK K
  repeat (first
      | ((with_reducible refine kLoad ?_); refine kldA H ?_))
  refine wpK_step (fun K hK => ?_)
  go_simp
  apply Exists.intro
  refine ⟨fun sx => ?_, hK _ ?_⟩
  · go_at_call 36
    exact RSub_any (some o) (some qq) n _ So Sqq En (H.out.tbx sx)
  clear hK K
  refine wpK_step (fun K hK => ?_)
  go_simp
  apply Exists.intro
  refine ⟨fun sx => ?_, hK _ ?_⟩
  · go_at_call 22
    exact ROf_any (1) o _ (by decide) (by decide) Eo (H.out.tbx sx)
  clear hK K
  repeat (first
      | ((with_reducible refine kLoad ?_); refine kldA H ?_))
  refine wpK_step (fun K hK => ?_)
  go_simp
  apply Exists.intro
  refine ⟨fun sx => ?_, hK _ ?_⟩
  · go_at_call 15
    exact RAdd_any (some o) (some qq) d _ So Sqq Ed (H.out.tbx sx)
  clear hK K
  refine wpK_step (fun K hK => ?_)
  go_simp
  apply Exists.intro
  refine ⟨fun sx => ?_, hK _ ?_⟩
  · go_at_call 34
    exact RDiv_any (some n) (some d) u _ Sn Sd Nd Eu (H.out.tbx sx)
  clear hK K
  repeat (first
      | ((fail_if_success (with_reducible refine kCall ?_)); (with_reducible refine kCons ?_); refine wpK_step (fun K hK => ?_); go_simp; refine hK _ ?_; clear hK K))
  refine wpKeep_nil ?_
  intro _
  (simp only [Act.put, List.setIfInBounds_toArray, List.set_cons_succ, List.set_cons_zero])
  refine ⟨⟨⟨_, _, _, rfl, by (first | exact rRat | exact rSpan | exact rFrame | exact rVec | exact rTurn | exact rBox), rfl, rfl⟩, rfl, rfl, rfl, rfl⟩, ?_⟩
  clear H
  intro _ H
  go_wp2_with (first
      | ((with_reducible refine isLoad ?_); refine ldA H ?_)
      | ((with_reducible refine isStore ?_); refine stA H ?_; clear H; intro _ H))
  exact bodyPost_ret (results_H H Tryz.results107 (by (first | exact rRat | exact rSpan | exact rFrame | exact rVec | exact rTurn | exact rBox)) rfl (by (repeat (first | exact List.Mem.head _ | refine List.Mem.tail _ ?_ | assumption))) (by rfl)) rfl ⟨rfl, H.out.bel⟩
end Go.Proofs.YtmfejdikfpckdaaGreatDoor

namespace Go.Proofs.YtmfejdikfpckdaaGreatDoor
open Go.RowKit
set_option linter.unusedVariables false
set_option maxRecDepth 100000

set_option maxHeartbeats 4000000 in
theorem turnSin_any {k : Nat} (r : Option Rat) (u : Rat) (w : World) (hk : k ≤ 1000) (Zr : Hid (SzO k r)) (Fu : Hid (sinQ (valO r) = u)) (hT : Tb w) :
    Calls Tryz.prog 108 #[.agg #[.bool false, .bool (sgO r), .string (nuO r), .string (deO r)]] w fun e w' => e = .returned (.agg #[.bool (sgO (some u)), .string (nuO (some u)), .string (deO (some u))]) ∧ Below w.heap.size w w' := by
  have H := Lib.hid (Hp.start hT)
  clear hT
  have Sr : Hid (SmO r) := SzO.sm Zr (by omega)
  obtain ⟨v, Ev⟩ : ∃ z : Rat, Hid (valO r = z) := ⟨_, rfl⟩
  have Zv : Hid (Sz k v) := szEq Ev (Zr)
  have Sv : Hid (SmO (some v)) := Sz.o Zv (by omega)
  obtain ⟨m, Em⟩ : ∃ z : Rat, Hid (v + v = z) := ⟨_, rfl⟩
  have Zm : Hid (Sz (k + k + 1) m) := szEq Em (Sz.add Zv Zv)
  have Sm : Hid (SmO (some m)) := Sz.o Zm (by omega)
  obtain ⟨o, Eo⟩ : ∃ z : Rat, Hid (((1 : Int) : Rat) = z) := ⟨_, rfl⟩
  have Zo : Hid (Sz 3 o) := szEq Eo (Sz.int (1) (by decide))
  have So : Hid (SmO (some o)) := Sz.o Zo (by omega)
  obtain ⟨qq, Eqq⟩ : ∃ z : Rat, Hid (v * v = z) := ⟨_, rfl⟩
  have Zqq : Hid (Sz (k + k) qq) := szEq Eqq (Sz.mul Zv Zv)
  have Sqq : Hid (SmO (some qq)) := Sz.o Zqq (by omega)
  obtain ⟨d, Ed⟩ : ∃ z : Rat, Hid (o + qq = z) := ⟨_, rfl⟩
  have Zd : Hid (Sz (3 + (k + k) + 1) d) := szEq Ed (Sz.add Zo Zqq)
  have Sd : Hid (SmO (some d)) := Sz.o Zd (by omega)
  have Nd : Hid (valO (some d) ≠ 0) := by have h1 := Eqq.out; have h2 := Ed.out; have h3 := Eo.out; subst_vars; exact onesq_ne _
  have Eu : Hid (m / d = u) := by have h0 := Fu.out; have h1 := Ev.out; have h2 := Em.out; have h3 := Eo.out; have h4 := Eqq.out; have h5 := Ed.out; subst_vars; rfl
  have Zu : Hid (Sz ((k + k + 1) + (3 + (k + k) + 1)) u) := szEq Eu (Sz.div Zm Zd Nd)
  have Su : Hid (SmO (some u)) := Sz.o Zu (by omega)
  go_enter Tryz.func108, Tryz.ntmps108
  go_wp2_with (first
      | ((with_reducible refine isLoad ?_); refine ldA H ?_)
      | ((with_reducible refine isBox ?_); refine bxA H ?_; clear H; intro _ _ H)
      | ((with_reducible refine isAlloc ?_); refine alA H ?_; clear H; intro _ _ H))
  refine (turnFit_any r v _ (by omega) Zr Ev H.out.tb).mono ?_
  rintro _ _ ⟨rfl, hb⟩
  replace H := Lib.hid (H.out.go hb)
  clear hb
  go_wp2_with (first
      | ((with_reducible refine isStore ?_); refine stA H ?_; clear H; intro _ H))
  refine wp_region_G (vs := [.bool (sgO (some u)), .string (nuO (some u)), .string (deO (some u))]) 16 H (by kernel_rfl) (by kernel_rfl) rfl rfl (by simp [Allocs, go_sem]; intro _ _; rfl) (by kernel_rfl) rfl rfl ?_
  simp only [List.take_succ_cons, List.take_zero, List.drop_succ_cons, List.drop_zero]
  repeat (first
      | ((with_reducible refine kLoad ?_); refine kldA H ?_)
      | ((fail_if_success (with_reducible refine kCall ?_)); (with_reducible refine kCons ?_); refine wpK_step (fun K hK => ?_); go_simp; refine hK _ ?_; clear hK K))
  refine wpK_step (fun K hK => ?_)
  go_simp
  apply Exists.intro
  refine ⟨fun sx => ?_, hK _ ?_⟩
  · go_at_call 15
    exact RAdd_any (some v) (some v) m _ Sv Sv Em (H.out.tbx sx)
  clear hK K
  refine wpK_step (fun K hK => ?_)
  go_simp
  apply Exists.intro
  refine ⟨fun sx => ?_, hK _ ?_⟩
  · go_at_call 22
    exact ROf_any (1) o _ (by decide) (by decide) Eo (H.out.tbx sx)
  clear hK K
  repeat (first
      | ((with_reducible refine kLoad ?_); refine kldA H ?_)
      | ((fail_if_success (with_reducible refine kCall ?_)); (with_reducible refine kCons ?_); refine wpK_step (fun K hK => ?_); go_simp; refine hK _ ?_; clear hK K))
  refine wpK_step (fun K hK => ?_)
  go_simp
  apply Exists.intro
  refine ⟨fun sx => ?_, hK _ ?_⟩
  · go_at_call 35
    exact RMul_any (some v) (some v) qq _ Sv Sv Eqq (H.out.tbx sx)
  clear hK K
  refine wpK_step (fun K hK => ?_)
  go_simp
  apply Exists.intro
  refine ⟨fun sx => ?_, hK _ ?_⟩
  · go_at_call 15
    exact RAdd_any (some o) (some qq) d _ So Sqq Ed (H.out.tbx sx)
  clear hK K
  refine wpK_step (fun K hK => ?_)
  go_simp
  apply Exists.intro
  refine ⟨fun sx => ?_, hK _ ?_⟩
  · go_at_call 34
    exact RDiv_any (some m) (some d) u _ Sm Sd Nd Eu (H.out.tbx sx)
  clear hK K
  repeat (first
      | ((fail_if_success (with_reducible refine kCall ?_)); (with_reducible refine kCons ?_); refine wpK_step (fun K hK => ?_); go_simp; refine hK _ ?_; clear hK K))
  refine wpKeep_nil ?_
  intro _
  (simp only [Act.put, List.setIfInBounds_toArray, List.set_cons_succ, List.set_cons_zero])
  refine ⟨⟨⟨_, _, _, rfl, by (first | exact rRat | exact rSpan | exact rFrame | exact rVec | exact rTurn | exact rBox), rfl, rfl⟩, rfl, rfl, rfl, rfl⟩, ?_⟩
  clear H
  intro _ H
  go_wp2_with (first
      | ((with_reducible refine isLoad ?_); refine ldA H ?_)
      | ((with_reducible refine isStore ?_); refine stA H ?_; clear H; intro _ H))
  exact bodyPost_ret (results_H H Tryz.results108 (by (first | exact rRat | exact rSpan | exact rFrame | exact rVec | exact rTurn | exact rBox)) rfl (by (repeat (first | exact List.Mem.head _ | refine List.Mem.tail _ ?_ | assumption))) (by rfl)) rfl ⟨rfl, H.out.bel⟩
end Go.Proofs.YtmfejdikfpckdaaGreatDoor

namespace Go.Proofs.YtmfejdikfpckdaaGreatDoor
open Go.RowKit
set_option linter.unusedVariables false
set_option maxRecDepth 100000

set_option maxHeartbeats 4000000 in
theorem turnThen_any {j k : Nat} (a : Option Rat) (b : Option Rat) (t : Rat) (w : World) (hk : j + k ≤ 4000) (Za : Hid (SzO j a)) (Zb : Hid (SzO k b)) (Hd : Hid (((1 : Int) : Rat) - valO a * valO b ≠ 0)) (Ft : Hid ((valO a + valO b) / (((1 : Int) : Rat) - valO a * valO b) = t)) (hT : Tb w) :
    Calls Tryz.prog 80 #[.agg #[.bool false, .bool (sgO a), .string (nuO a), .string (deO a)], .agg #[.bool false, .bool (sgO b), .string (nuO b), .string (deO b)]] w fun e w' => e = .returned (.agg #[.bool false, .bool (sgO (some t)), .string (nuO (some t)), .string (deO (some t))]) ∧ Below w.heap.size w w' := by
  have H := Lib.hid (Hp.start hT)
  clear hT
  have Sa : Hid (SmO a) := SzO.sm Za (by omega)
  have Sb : Hid (SmO b) := SzO.sm Zb (by omega)
  obtain ⟨p, Ep⟩ : ∃ z : Rat, Hid (valO a = z) := ⟨_, rfl⟩
  have Zp : Hid (Sz j p) := szEq Ep (Za)
  have Sp : Hid (SmO (some p)) := Sz.o Zp (by omega)
  obtain ⟨q, Eq⟩ : ∃ z : Rat, Hid (valO b = z) := ⟨_, rfl⟩
  have Zq : Hid (Sz k q) := szEq Eq (Zb)
  have Sq : Hid (SmO (some q)) := Sz.o Zq (by omega)
  obtain ⟨s, Es⟩ : ∃ z : Rat, Hid (p + q = z) := ⟨_, rfl⟩
  have Zs : Hid (Sz (j + k + 1) s) := szEq Es (Sz.add Zp Zq)
  have Ss : Hid (SmO (some s)) := Sz.o Zs (by omega)
  obtain ⟨o, Eo⟩ : ∃ z : Rat, Hid (((1 : Int) : Rat) = z) := ⟨_, rfl⟩
  have Zo : Hid (Sz 3 o) := szEq Eo (Sz.int (1) (by decide))
  have So : Hid (SmO (some o)) := Sz.o Zo (by omega)
  obtain ⟨m, Em⟩ : ∃ z : Rat, Hid (p * q = z) := ⟨_, rfl⟩
  have Zm : Hid (Sz (j + k) m) := szEq Em (Sz.mul Zp Zq)
  have Sm : Hid (SmO (some m)) := Sz.o Zm (by omega)
  obtain ⟨d, Ed⟩ : ∃ z : Rat, Hid (o - m = z) := ⟨_, rfl⟩
  have Zd : Hid (Sz (3 + (j + k) + 1) d) := szEq Ed (Sz.sub Zo Zm)
  have Sd : Hid (SmO (some d)) := Sz.o Zd (by omega)
  have Nd : Hid (valO (some d) ≠ 0) := by have h0 := Hd.out; have h1 := Ep.out; have h2 := Eq.out; have h3 := Em.out; have h4 := Ed.out; have h5 := Eo.out; subst_vars; exact h0
  have Et : Hid (s / d = t) := by have h0 := Ft.out; have h1 := Ep.out; have h2 := Eq.out; have h3 := Es.out; have h4 := Eo.out; have h5 := Em.out; have h6 := Ed.out; subst_vars; rfl
  have Zt : Hid (Sz ((j + k + 1) + (3 + (j + k) + 1)) t) := szEq Et (Sz.div Zs Zd Nd)
  have St : Hid (SmO (some t)) := Sz.o Zt (by omega)
  have Et2 : Hid (valO (some t) = t) := rfl
  go_enter Tryz.func80, Tryz.ntmps80
  go_wp2_with (first
      | ((with_reducible refine isBox ?_); refine bxA H ?_; clear H; intro _ _ H)
      | ((with_reducible refine isAlloc ?_); refine alA H ?_; clear H; intro _ _ H))
  refine wp_region_T 4 H (by kernel_rfl) (by kernel_rfl) ?_
  simp only [List.take_succ_cons, List.take_zero, List.drop_succ_cons, List.drop_zero]
  repeat (first
      | ((with_reducible refine kLoad ?_); refine kldA H ?_))
  refine wpK_step (fun K hK => ?_)
  go_simp
  apply Exists.intro
  refine ⟨fun sx => ?_, hK _ ?_⟩
  · go_at_call 92
    exact turnFit_any a p _ (by omega) Za Ep (H.out.tbx sx)
  clear hK K
  repeat (first
      | ((with_reducible refine kLoad ?_); refine kldA H ?_))
  refine wpK_step (fun K hK => ?_)
  go_simp
  apply Exists.intro
  refine ⟨fun sx => ?_, hK _ ?_⟩
  · go_at_call 92
    exact turnFit_any b q _ (by omega) Zb Eq (H.out.tbx sx)
  clear hK K
  refine wpKeep_nil ?_
  clear H
  intro _ H
  go_wp2_with (first
      | go_skip
      | ((with_reducible refine isLoad ?_); refine ld1A H ?_)
      | ((with_reducible refine isStore ?_); refine stA H ?_; clear H; intro _ H))
  refine wp_region_G (vs := [.bool (sgO (some t)), .string (nuO (some t)), .string (deO (some t))]) 16 H (by kernel_rfl) (by kernel_rfl) rfl rfl (by simp [Allocs, go_sem]; intro _ _; rfl) (by kernel_rfl) rfl rfl ?_
  simp only [List.take_succ_cons, List.take_zero, List.drop_succ_cons, List.drop_zero]
  repeat (first
      | ((with_reducible refine kLoad ?_); refine kldA H ?_)
      | ((fail_if_success (with_reducible refine kCall ?_)); (with_reducible refine kCons ?_); refine wpK_step (fun K hK => ?_); go_simp; refine hK _ ?_; clear hK K))
  refine wpK_step (fun K hK => ?_)
  go_simp
  apply Exists.intro
  refine ⟨fun sx => ?_, hK _ ?_⟩
  · go_at_call 15
    exact RAdd_any (some p) (some q) s _ Sp Sq Es (H.out.tbx sx)
  clear hK K
  refine wpK_step (fun K hK => ?_)
  go_simp
  apply Exists.intro
  refine ⟨fun sx => ?_, hK _ ?_⟩
  · go_at_call 22
    exact ROf_any (1) o _ (by decide) (by decide) Eo (H.out.tbx sx)
  clear hK K
  repeat (first
      | ((with_reducible refine kLoad ?_); refine kldA H ?_)
      | ((fail_if_success (with_reducible refine kCall ?_)); (with_reducible refine kCons ?_); refine wpK_step (fun K hK => ?_); go_simp; refine hK _ ?_; clear hK K))
  refine wpK_step (fun K hK => ?_)
  go_simp
  apply Exists.intro
  refine ⟨fun sx => ?_, hK _ ?_⟩
  · go_at_call 35
    exact RMul_any (some p) (some q) m _ Sp Sq Em (H.out.tbx sx)
  clear hK K
  refine wpK_step (fun K hK => ?_)
  go_simp
  apply Exists.intro
  refine ⟨fun sx => ?_, hK _ ?_⟩
  · go_at_call 36
    exact RSub_any (some o) (some m) d _ So Sm Ed (H.out.tbx sx)
  clear hK K
  refine wpK_step (fun K hK => ?_)
  go_simp
  apply Exists.intro
  refine ⟨fun sx => ?_, hK _ ?_⟩
  · go_at_call 34
    exact RDiv_any (some s) (some d) t _ Ss Sd Nd Et (H.out.tbx sx)
  clear hK K
  repeat (first
      | ((fail_if_success (with_reducible refine kCall ?_)); (with_reducible refine kCons ?_); refine wpK_step (fun K hK => ?_); go_simp; refine hK _ ?_; clear hK K))
  refine wpKeep_nil ?_
  intro _
  (simp only [Act.put, List.setIfInBounds_toArray, List.set_cons_succ, List.set_cons_zero])
  refine ⟨⟨⟨_, _, _, rfl, by (first | exact rRat | exact rSpan | exact rFrame | exact rVec | exact rTurn | exact rBox), rfl, rfl⟩, rfl, rfl, rfl, rfl⟩, ?_⟩
  clear H
  intro _ H
  go_wp2_with (first
      | ((with_reducible refine isLoad ?_); refine ldA H ?_))
  refine (turnOf_any (some t) t _ (by omega) Zt Et2 H.out.tb).mono ?_
  rintro _ _ ⟨rfl, hb⟩
  replace H := Lib.hid (H.out.go hb)
  clear hb
  go_wp2_with (first
      | ((with_reducible refine isStore ?_); refine stA H ?_; clear H; intro _ H))
  exact bodyPost_ret (results_H H Tryz.results80 (by (first | exact rRat | exact rSpan | exact rFrame | exact rVec | exact rTurn | exact rBox)) rfl (by (repeat (first | exact List.Mem.head _ | refine List.Mem.tail _ ?_ | assumption))) (by rfl)) rfl ⟨rfl, H.out.bel⟩
end Go.Proofs.YtmfejdikfpckdaaGreatDoor
