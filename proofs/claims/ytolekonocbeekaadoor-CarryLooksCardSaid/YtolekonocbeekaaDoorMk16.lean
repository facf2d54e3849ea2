/- The blocks of a call as one list: every operation on structs is one law over it, in a plain region and in one that draws its order. No program but for the library's table. · wp_region_newput over the list of the call's blocks. No program. · wp_region_uni over the list of the call's blocks. No program. · Facts on the structs, and what the walks of see speak of. Printed by gen/seeh.py. · A region that draws its order and calls what changes one known block (a stream of numbers): the state is the list of the call's own blocks. Kinds: p (reads, calls, computes: over blocks that do not change), a (makes a block), s (changes a known block, and may yield a value). Printed by gen/unv.py. · The laws over the list of blocks, their small premises left to be found where they are used. · see.Has. Printed by gen/seeh.py. · see.long. Printed by gen/seeh.py. · see.meet. Printed by gen/seeh.py. · see.Of. Printed by gen/seeh.py. · see.within. Printed by gen/seeh.py. · see.Inside. Printed by gen/seeh.py. · see.Same. Printed by gen/seeh.py. · What the walks over spec.py speak of: no walk. Printed by gen/spech.py. · see.Middle, its closure. Printed by gen/spech.py. · see.Middle. Printed by gen/spech.py. · see.meet, its values as functions. Printed by gen/spech.py. · see.Narrow: they meet. Printed by gen/spech.py. · see.Narrow: they do not meet. Printed by gen/spech.py. · see.Width. Printed by gen/spech.py. · span.around, what it speaks of. Printed by gen/spech.py. · span.around. Printed by gen/spech.py. · a slice built of numbers. Printed by gen/spech.py. · A stream of numbers among the call's own blocks: what Next yields and leaves, as functions; gantmake.Of as a rational number. · What the walks of gantkeep4 speak of: no walk. Printed by gen/keep.py. · gantkeep4.between. Printed by gen/keep.py. · the closure of gantkeep4.Pose. Printed by gen/keep.py. · the closure of gantkeep4.Within. Printed by gen/keep.py. · Values of a pose and a frame drawn from a stream: no walk. Printed by gen/keep.py. · gantkeep4.Frame. Printed by gen/keep.py. · gantkeep4.Pose. Printed by gen/keep.py. · gantkeep4.Within. Printed by gen/keep.py. · What the laws of see and carry draw, and their questions: no walk. Printed by gen/lawr6.py. · see.Narrow at good poses. Printed by gen/lawr6.py. · gantkeep4.seen. Printed by gen/lawr6.py. · What the walks of turn speak of: no walk. Printed by gen/spech.py. · Spans as they lie in memory and as they count; what the walks of see and carry compute: no walk. Printed by gen/spech2.py. · carry.add. Printed by gen/spech2.py. · carry.ends. Printed by gen/spech2.py. · carry.turned. Printed by gen/spech2.py. · gantkeep4.inBox: it is. Printed by gen/spech2.py. · see.wide. Printed by gen/spech2.py. · see.Widen. Printed by gen/spech2.py. -/
import Derived.Test.YtolekonocbeekaaDoorMk7
import Derived.Test.YtolekonocbeekaaDoorMk14
import Derived.Test.YtolekonocbeekaaDoorMk6
import Derived.Test.YtolekonocbeekaaDoorMk15
import Derived.Test.YtolekonocbeekaaDoorMk5
import Derived.Test.YtolekonocbeekaaDoorMk10
namespace Go.Proofs.YtolekonocbeekaaDoor
open Go.RowKit
set_option linter.unusedVariables false

abbrev Ents := List (Nat × TypeId × List Value)
/-- The call's own blocks; all that was there is as it was; the library's table is there. -/
structure Hp (w0 w : World) (l : Ents) : Prop where
  blk : ∀ x ∈ l, w0.heap.size ≤ x.1 ∧ Blk w x.1 x.2.1 x.2.2.toArray
  nd : (l.map (·.1)).Nodup
  bel : Below w0.heap.size w0 w
  t0 : Tb w0
theorem Hp.tb {w0 w : World} {l : Ents} (h : Hp w0 w l) : Tb w := h.t0.below h.bel
theorem Hp.tbx {w0 w : World} {l : Ents} (h : Hp w0 w l) (s : Ext w) : Tb s.to := h.tb.below s.h
theorem Hp.tbz {w0 w : World} {l : Ents} {z : Nat} (h : Hp w0 w l) (hz : w0.heap.size ≤ z) (s : ExtZ w z) : Tb s.to := h.t0.below (s.h.below h.bel hz h.bel.size)
theorem Hp.start {w : World} (h : Tb w) : Hp w w [] := ⟨(fun _ h => by cases h), List.Pairwise.nil, Below.refl _ _, h⟩
theorem Hp.go {w0 w w' : World} {l : Ents} (h : Hp w0 w l) (hb : Below w.heap.size w w') : Hp w0 w' l :=
  ⟨fun x hx => ⟨(h.blk x hx).1, (h.blk x hx).2.below hb (h.blk x hx).2.lt⟩, h.nd, h.bel.trans (hb.mono h.bel.size), h.t0⟩
theorem Hp.lt {w0 w : World} {l : Ents} (h : Hp w0 w l) {x : Nat × TypeId × List Value} (hx : x ∈ l) : x.1 < w.heap.size := (h.blk x hx).2.lt
theorem Hp.fresh {w0 w w' : World} {l : Ents} (h : Hp w0 w l) (hb : Below w.heap.size w w') {b : Nat} {t : TypeId} {cs : List Value} (hg : w.heap.size ≤ b) (hk : Blk w' b t cs.toArray) : Hp w0 w' ((b, t, cs) :: l) := by
  refine ⟨fun x hx => ?_, ?_, (h.go hb).bel, h.t0⟩
  · rcases List.mem_cons.1 hx with rfl | hx
    · exact ⟨Nat.le_trans h.bel.size hg, hk⟩
    · exact (h.go hb).blk x hx
  · rw [List.map_cons, List.nodup_cons]
    refine ⟨fun hm => ?_, h.nd⟩
    obtain ⟨x, hx, he⟩ := List.mem_map.1 hm
    have h1 := h.lt hx
    have h2 : x.1 = b := he
    omega
/-- One block's cells are others. -/
inductive Upd : Ents → Nat → TypeId → List Value → List Value → Ents → Prop
  | head {b : Nat} {T : TypeId} {cs ds : List Value} {l : Ents} : Upd ((b, T, cs) :: l) b T cs ds ((b, T, ds) :: l)
  | tail {b : Nat} {T : TypeId} {cs ds : List Value} {l l' : Ents} {x : Nat × TypeId × List Value} (h : Upd l b T cs ds l') : Upd (x :: l) b T cs ds (x :: l')
theorem Upd.mem {l l' : Ents} {b : Nat} {T : TypeId} {cs ds : List Value} (h : Upd l b T cs ds l') : (b, T, cs) ∈ l := by
  induction h with
  | head => exact .head _
  | tail _ ih => exact .tail _ ih
theorem Upd.fst {l l' : Ents} {b : Nat} {T : TypeId} {cs ds : List Value} (h : Upd l b T cs ds l') : l'.map (·.1) = l.map (·.1) := by
  induction h with
  | head => rfl
  | tail _ ih => rw [List.map_cons, List.map_cons, ih]
theorem Upd.all {l l' : Ents} {b : Nat} {T : TypeId} {cs ds : List Value} (h : Upd l b T cs ds l') {p q : Nat × TypeId × List Value → Prop} (hn : (l.map (·.1)).Nodup) (ho : ∀ x ∈ l, x.1 ≠ b → p x → q x) (hq : q (b, T, ds)) (hp : ∀ x ∈ l, p x) : ∀ x ∈ l', q x := by
  induction h with
  | head =>
    rw [List.map_cons, List.nodup_cons] at hn
    intro x hx
    rcases List.mem_cons.1 hx with rfl | hx
    · exact hq
    · exact ho x (.tail _ hx) (fun e => hn.1 (by rw [← e]; exact List.mem_map.2 ⟨x, hx, rfl⟩)) (hp x (.tail _ hx))
  | tail h ih =>
    rename_i y
    rw [List.map_cons, List.nodup_cons] at hn
    intro x hx
    rcases List.mem_cons.1 hx with rfl | hx
    · refine ho _ (.head _) (fun e => hn.1 ?_) (hp _ (.head _))
      rw [e]
      exact List.mem_map.2 ⟨_, h.mem, rfl⟩
    · exact ih hn.2 (fun x hx => ho x (.tail _ hx)) hq (fun x hx => hp x (.tail _ hx)) x hx
theorem Hp.stored {w0 w w' : World} {l l' : Ents} {b : Nat} {T : TypeId} {cs ds : List Value} (h : Hp w0 w l) (hu : Upd l b T cs ds l') (hz : BelowZ b w w') (hk : Blk w' b T ds.toArray) : Hp w0 w' l' := by
  have hb := (h.blk _ hu.mem).1
  refine ⟨?_, by rw [hu.fst]; exact h.nd, hz.below h.bel hb h.bel.size, h.t0⟩
  exact hu.all (p := fun x => w0.heap.size ≤ x.1 ∧ Blk w x.1 x.2.1 x.2.2.toArray) (q := fun x => w0.heap.size ≤ x.1 ∧ Blk w' x.1 x.2.1 x.2.2.toArray) h.nd (fun x hx hne hp => ⟨hp.1, hz.blk hp.2 hne⟩) ⟨hb, hk⟩ h.blk
theorem Hp.get {w0 w : World} {l : Ents} (h : Hp w0 w l) {b : Nat} {T : TypeId} {cs : List Value} (hm : (b, T, cs) ∈ l) : Hid (Blk w b T cs.toArray) := (h.blk _ hm).2

section
variable {P : Program} {ops : Array Oper} {rest : List Oper} {o : Oper} {a : Act} {w0 w : World} {l l' : Ents} {Q : Exit → Act → World → Prop}
theorem wpList_loadH (H : Hid (Hp w0 w l)) {t T : TypeId} {p : Operand} {b k n : Nat} {cs ds : List Value} (ho : o.op = .load t p) (hg : Region.wanted o (yielded ops a.tmps) = true) (hT : RowT P t n) (hp : a.eval p = .pointer (some ⟨b, k, none⟩))
    (hm : (b, T, cs) ∈ l) (hx : (cs.drop k).take n = ds) (hl : ds.length = n) (hK : wpList P ops Q rest (a.put o.dst (.agg ds.toArray)) w) : wpList P ops Q (o :: rest) a w :=
  wpList_loadB ho hg hT hp (H.out.get hm) (by simpa using hx) hl hK
theorem wpList_loadH1 (H : Hid (Hp w0 w l)) {t T : TypeId} {p : Operand} {b k : Nat} {cs : List Value} {v : Value} (ho : o.op = .load t p) (hg : Region.wanted o (yielded ops a.tmps) = true) (hT : ∃ d, P.underlying t = some d ∧ d.isRow = false) (hp : a.eval p = .pointer (some ⟨b, k, none⟩))
    (hm : (b, T, cs) ∈ l) (hx : cs[k]? = some v) (hK : wpList P ops Q rest (a.put o.dst v) w) : wpList P ops Q (o :: rest) a w :=
  wpList_loadC ho hg hT hp (H.out.get hm) (by simpa using hx) hK
theorem wpList_storeH (H : Hid (Hp w0 w l)) {t T : TypeId} {p x : Operand} {b k n : Nat} {cs vs ds : List Value} (ho : o.op = .store t p x) (hg : o.guard = none) (hd : o.dst = none) (hT : RowT P t n) (hp : a.eval p = .pointer (some ⟨b, k, none⟩)) (hx : a.eval x = .agg vs.toArray)
    (hu : Upd l b T cs ds l') (hl : vs.length = n) (hc : cs.take k ++ vs ++ cs.drop (k + n) = ds) (hk : k + n ≤ cs.length) (h1 : vs.all (·.oneCell') = true)
    (hK : ∀ W', Hid (Hp w0 W' l') → wpList P ops Q rest a W') : wpList P ops Q (o :: rest) a w :=
  wpList_storeB ho hg hd hT hp hx (H.out.get hu.mem) hl (by simpa using hk) h1 (by simpa using hc) fun W' hz hb => hK W' (H.out.stored hu hz hb.out)
theorem wpList_storeH1 (H : Hid (Hp w0 w l)) {t T : TypeId} {p x : Operand} {b k : Nat} {cs ds : List Value} {v : Value} (ho : o.op = .store t p x) (hg : o.guard = none) (hd : o.dst = none) (hT : (P.info? t).map (·.size) = some 1) (hp : a.eval p = .pointer (some ⟨b, k, none⟩)) (hx : a.eval x = v)
    (hu : Upd l b T cs ds l') (hc : cs.set k v = ds) (hk : k < cs.length) (h1 : v.oneCell' = true) (hv : v.cells = #[v])
    (hK : ∀ W', Hid (Hp w0 W' l') → wpList P ops Q rest a W') : wpList P ops Q (o :: rest) a w :=
  wpList_storeC ho hg hd hT hp hx (H.out.get hu.mem) (by simpa using hk) h1 hv (by simpa using hc) fun W' hz hb => hK W' (H.out.stored hu hz hb.out)
theorem wpList_boxH (H : Hid (Hp w0 w l)) {t : TypeId} {x : Operand} {d : Tmp} {v : Value} {cs : List Value} (ho : o.op = .box t x) (hg : o.guard = none) (hd : o.dst = some d) (hx : a.eval x = v) (hc : v.cells = cs.toArray)
    (hK : ∀ (b : Nat) W', Hid (Hp w0 W' ((b, t, cs) :: l)) → wpList P ops Q rest (a.put (some d) (.pointer (some ⟨b, 0, none⟩))) W') : wpList P ops Q (o :: rest) a w :=
  wpList_newB (cs := cs) (t := t) hg hd (fun W => by
    unfold execOp
    simp only [ho, hx]
    simp [go_sem]
    show W.alloc (.cells v.cells t) = _
    rw [hc]) fun b W' h1 h2 h3 => hK b W' (H.out.fresh h2 h1 h3.out)
theorem wpList_allocH (H : Hid (Hp w0 w l)) {t : TypeId} {d : Tmp} {z : Value} {cs : List Value} (ho : o.op = .alloc t) (hg : o.guard = none) (hd : o.dst = some d) (hz : (P.info? t).bind (·.zero) = some z) (hc : z.cells = cs.toArray)
    (hK : ∀ (b : Nat) W', Hid (Hp w0 W' ((b, t, cs) :: l)) → wpList P ops Q rest (a.put (some d) (.pointer (some ⟨b, 0, none⟩))) W') : wpList P ops Q (o :: rest) a w := by
  have hi : ∃ i, P.info? t = some i ∧ i.zero = some z := by
    cases hq : P.info? t with
    | none => simp [hq] at hz
    | some i => exact ⟨i, rfl, by simpa [hq] using hz⟩
  obtain ⟨i, hi1, hi2⟩ := hi
  exact wpList_newB (cs := cs) (t := t) hg hd (fun W => by
    unfold execOp
    simp only [ho]
    simp [go_sem, zeroValue, typeInfo, hi1, hi2]
    show W.alloc (.cells z.cells t) = _
    rw [hc]) fun b W' h1 h2 h3 => hK b W' (H.out.fresh h2 h1 h3.out)

/-! A region that draws its order: the head -/
theorem wpK_step {R : Act → Prop}
    (h : ∀ K : Act → Prop, (∀ a, wpKeep P ops w R rest a → K a) → if Region.wanted o (yielded ops a.tmps) then (∃ v, (∀ s : Ext w, Oper.quietUpon P (fun w'' => Below s.to.heap.size s.to w'') s.to v ((execOp a.eval o).run P s.to)) ∧ K (a.put o.dst v)) else K (a.put o.dst undef)) : wpKeep P ops w R (o :: rest) a := h _ (fun _ h => h)
theorem wpK_loadH (H : Hid (Hp w0 w l)) {R : Act → Prop} {t T : TypeId} {p : Operand} {b k n : Nat} {cs ds : List Value} (ho : o.op = .load t p) (hg : Region.wanted o (yielded ops a.tmps) = true) (hT : RowT P t n) (hp : a.eval p = .pointer (some ⟨b, k, none⟩))
    (hm : (b, T, cs) ∈ l) (hx : (cs.drop k).take n = ds) (hl : ds.length = n) (hK : wpKeep P ops w R rest (a.put o.dst (.agg ds.toArray))) : wpKeep P ops w R (o :: rest) a :=
  wpKeep_loadB ho hg hT hp (H.out.get hm) (by simpa using hx) hl hK
theorem run_loadC {t T : TypeId} {b k : Nat} {cs : Array Value} {v : Value} (hT : ∃ d, P.underlying t = some d ∧ d.isRow = false) (h : Blk w b T cs) (hx : cs[k]? = some v) : (Instr.loadAt t (.pointer (some ⟨b, k, none⟩))).run P w = .ok v w := by
  obtain ⟨d, h1, h2⟩ := hT
  have hc : w.cell? ⟨b, k, none⟩ = some v := by rw [h.cell]; exact hx
  have hagg : (isAgg t).run P w = .ok false w := by
    unfold isAgg
    rw [Sem.run_bind, run_underlying h1 w]
    cases d <;> simp_all
  simp only [Instr.loadAt, Instr.sureAddr, loadVar, Sem.run_bind, Sem.run_pure, Result.andThen_ok, hagg]
  simp [hc, go_sem]
theorem wpK_loadH1 (H : Hid (Hp w0 w l)) {R : Act → Prop} {t T : TypeId} {p : Operand} {b k : Nat} {cs : List Value} {v : Value} (ho : o.op = .load t p) (hg : Region.wanted o (yielded ops a.tmps) = true) (hT : ∃ d, P.underlying t = some d ∧ d.isRow = false) (hp : a.eval p = .pointer (some ⟨b, k, none⟩))
    (hm : (b, T, cs) ∈ l) (hx : cs[k]? = some v) (hK : wpKeep P ops w R rest (a.put o.dst v)) : wpKeep P ops w R (o :: rest) a := by
  unfold wpKeep
  rw [if_pos hg]
  refine ⟨v, fun s => ?_, hK⟩
  have hb : Blk s.to b T cs.toArray := (H.out.get hm).out.below s.h (H.out.get hm).out.lt
  have hr := run_loadC (P := P) (t := t) (k := k) hT hb (by simpa using hx)
  unfold keepsAt execOp
  simp only [ho, hp, hr, Sem.run_bind, Sem.run_pure, Result.andThen_ok]
  exact ⟨rfl, rfl⟩
theorem wpQuiet_of_keep {R : Act → Prop} : ∀ (l : List Oper) (a : Act), wpKeep P ops w R l a → wpQuiet P ops (fun w' => ∃ s : Ext w, w' = s.to) R l a
  | [], a, h => h
  | o :: rest, a, h => by
    unfold wpKeep at h
    unfold wpQuiet
    split
    · rename_i hw
      rw [if_pos hw] at h
      obtain ⟨v, h1, h2⟩ := h
      refine ⟨v, ?_, wpQuiet_of_keep rest _ h2⟩
      rintro _ ⟨s, rfl⟩
      exact quietUpon_mono (fun w' hb => ⟨⟨w', s.h.trans (hb.mono s.h.size)⟩, rfl⟩) (h1 s)
    · rename_i hw
      rw [if_neg hw] at h
      exact wpQuiet_of_keep rest _ h
/-- All operations read or call. -/
theorem wp_region_E {id : Nat} {ol : List Oper} (H : Hid (Hp w0 w l)) (hm : P.follows .mixedOrders = true) (hB : Region.lexB .any ol.toArray = true)
    (h : wpKeep P ol.toArray w (fun a' => ∀ W, Hid (Hp w0 W l) → Q .normal a' W) ol a) : (Code.region id ol.toArray true).wp P Q a w := by
  refine wp_region_ext hm hB (wpQuiet_of_keep ol a ?_)
  have mono : ∀ (l' : List Oper) (a : Act) {R R' : Act → Prop}, (∀ a, R a → R' a) → wpKeep P ol.toArray w R l' a → wpKeep P ol.toArray w R' l' a := by
    intro l'
    induction l' with
    | nil => intro a R R' hR h; exact hR _ h
    | cons o r ih =>
      intro a R R' hR h
      unfold wpKeep at h ⊢
      split
      · rename_i hw
        rw [if_pos hw] at h
        obtain ⟨v, h1, h2⟩ := h
        exact ⟨v, h1, ih _ hR h2⟩
      · rename_i hw
        rw [if_neg hw] at h
        exact ih _ hR h
  refine mono ol a (fun a' h1 w' hw' => ?_) h
  obtain ⟨s, rfl⟩ := hw'
  exact h1 _ (H.out.go s.h)
/-- n operations read or call; the rest comes in one forced order. -/
theorem wp_region_T {id : Nat} {ol : List Oper} (n : Nat) (H : Hid (Hp w0 w l)) (hm : P.follows .mixedOrders = true) (hB : Region.lexTailB .any ol.toArray n = true)
    (h : wpKeep P ol.toArray w (fun a' => ∀ W, Hid (Hp w0 W l) → wpList P ol.toArray Q (ol.drop n) a' W) (ol.take n) a) : (Code.region id ol.toArray true).wp P Q a w := by
  refine wp_region_fresh n [] hm (by simpa using hB) (by simp [AllAlloc]) ?_
  have mono : ∀ (l' : List Oper) (a : Act) {R R' : Act → Prop}, (∀ a, R a → R' a) → wpKeep P ol.toArray w R l' a → wpKeep P ol.toArray w R' l' a := by
    intro l'
    induction l' with
    | nil => intro a R R' hR h; exact hR _ h
    | cons o r ih =>
      intro a R R' hR h
      unfold wpKeep at h ⊢
      split
      · rename_i hw
        rw [if_pos hw] at h
        obtain ⟨v, h1, h2⟩ := h
        exact ⟨v, h1, ih _ hR h2⟩
      · rename_i hw
        rw [if_neg hw] at h
        exact ih _ hR h
  refine mono _ a (fun a' h1 => ?_) h
  simp only [List.length_nil, List.take_zero, wpNew, Nat.add_zero]
  intro W hW
  exact h1 W (H.out.go hW.1)
/-- .. a new block between. -/
theorem wp_region_F1 {id : Nat} {ol : List Oper} {o1 : Oper} {t : TypeId} {cs : List Value} (n : Nat) (H : Hid (Hp w0 w l)) (hm : P.follows .mixedOrders = true) (hB : Region.lexTailB .any ol.toArray (n + 1) = true)
    (ho : ol.drop n = o1 :: ol.drop (n + 1)) (hA : Allocs P ol.toArray o1 (.cells cs.toArray t))
    (h : wpKeep P ol.toArray w (fun a' => ∀ b W, Hid (Hp w0 W ((b, t, cs) :: l)) → wpList P ol.toArray Q (ol.drop (n + 1)) (a'.put o1.dst (.pointer (some ⟨b, 0, none⟩))) W) (ol.take n) a) : (Code.region id ol.toArray true).wp P Q a w := by
  refine wp_region_fresh n [.cells cs.toArray t] hm (by simpa using hB) (by rw [ho]; simp [AllAlloc, hA]) ?_
  have mono : ∀ (l' : List Oper) (a : Act) {R R' : Act → Prop}, (∀ a, R a → R' a) → wpKeep P ol.toArray w R l' a → wpKeep P ol.toArray w R' l' a := by
    intro l'
    induction l' with
    | nil => intro a R R' hR h; exact hR _ h
    | cons o r ih =>
      intro a R R' hR h
      unfold wpKeep at h ⊢
      split
      · rename_i hw
        rw [if_pos hw] at h
        obtain ⟨v, h1, h2⟩ := h
        exact ⟨v, h1, ih _ hR h2⟩
      · rename_i hw
        rw [if_neg hw] at h
        exact ih _ hR h
  refine mono _ a (fun a' h1 => ?_) h
  rw [ho]
  simp only [List.length_cons, List.length_nil, List.take_succ_cons, List.take_zero, wpNew, Nat.zero_add]
  intro g hg hn W hW
  exact h1 g W (H.out.fresh hW.1 hg (hW.2 g _ (.inl ⟨rfl, rfl⟩)))

/-! .. with a store that floats -/
theorem wpKZ_step {z : Nat} {R : Act → Prop}
    (h : ∀ K : Act → Prop, (∀ a, wpKeepZ P ops w z R rest a → K a) → if Region.wanted o (yielded ops a.tmps) then (∃ v, (∀ s : ExtZ w z, Oper.quietUpon P (fun w'' => Below s.to.heap.size s.to w'') s.to v ((execOp a.eval o).run P s.to)) ∧ K (a.put o.dst v)) else K (a.put o.dst undef)) : wpKeepZ P ops w z R (o :: rest) a := h _ (fun _ h => h)
theorem Upd.ne {l l' : Ents} {b z : Nat} {T U : TypeId} {cs ds es : List Value} (hu : Upd l z U ds es l') (hm : (b, T, cs) ∈ l) (hne : b ≠ z) : b ≠ z := hne
theorem wpKZ_loadH (H : Hid (Hp w0 w l)) {z : Nat} {R : Act → Prop} {t T : TypeId} {p : Operand} {b k n : Nat} {cs ds : List Value} (ho : o.op = .load t p) (hg : Region.wanted o (yielded ops a.tmps) = true) (hT : RowT P t n) (hp : a.eval p = .pointer (some ⟨b, k, none⟩))
    (hm : (b, T, cs) ∈ l) (hne : b ≠ z) (hx : (cs.drop k).take n = ds) (hl : ds.length = n) (hK : wpKeepZ P ops w z R rest (a.put o.dst (.agg ds.toArray))) : wpKeepZ P ops w z R (o :: rest) a :=
  wpKeepZ_loadB ho hg hT hp (H.out.get hm) hne (by simpa using hx) hl hK
/-- The store that floats writes a whole struct. -/
structure StoreOK (P : Program) (os : Oper) (a : Act) (z n : Nat) (vs : List Value) : Prop where
  op : ∃ t p x, os.op = .store t p x ∧ RowT P t n ∧ a.eval p = .pointer (some ⟨z, 0, none⟩) ∧ a.eval x = .agg vs.toArray
  g : os.guard = none
  d : os.dst = none
  l : vs.length = n
  o : vs.all (·.oneCell') = true
theorem wp_region_P {id : Nat} {ol : List Oper} {os : Oper} {z m : Nat} {T : TypeId} {cs vs : List Value} (n : Nat) (H : Hid (Hp w0 w l)) (hu : Upd l z T cs vs l') (hl : cs.length = m) (hm : P.follows .mixedOrders = true) (hB : Region.lexTailB .any ol.toArray (n + 1) = true)
    (hos : ol[n]? = some os)
    (h : wpKeepZ P ol.toArray w z (fun a' => StoreOK P os a' z m vs ∧ ∀ W, Hid (Hp w0 W l') → wpList P ol.toArray Q (ol.drop (n + 1)) a' W) (ol.take n) a) : (Code.region id ol.toArray true).wp P Q a w := by
  have hb := (H.out.get hu.mem).out
  refine wp_region_put n z (.cells cs.toArray T (0, 0)) (.cells vs.toArray T (0, 0)) hm hB hos hb ?_
  have mono : ∀ (l' : List Oper) (a : Act) {R R' : Act → Prop}, (∀ a, R a → R' a) → wpKeepZ P ol.toArray w z R l' a → wpKeepZ P ol.toArray w z R' l' a := by
    intro l'
    induction l' with
    | nil => intro a R R' hR h; exact hR _ h
    | cons o r ih =>
      intro a R R' hR h
      unfold wpKeepZ at h ⊢
      split
      · rename_i hw
        rw [if_pos hw] at h
        obtain ⟨v, h1, h2⟩ := h
        exact ⟨v, h1, ih _ hR h2⟩
      · rename_i hw
        rw [if_neg hw] at h
        exact ih _ hR h
  refine mono _ a (fun a' h1 => ?_) h
  obtain ⟨hS, h2⟩ := h1
  obtain ⟨t, p, x, ho, hT, hp, hx⟩ := hS.op
  refine ⟨⟨by simp [Region.wanted, hS.g], fun W hW => ?_⟩, fun W hz hW => ?_⟩
  · have hk : Blk W z T cs.toArray := hW
    have hvl := hS.l
    have hs : (sizeOf t).run P W = .ok vs.length W := by
      have h3 := hT.s
      cases hq : P.info? t with
      | none => simp [hq] at h3
      | some i =>
        have h4 : i.size = m := by simpa [hq] using h3
        simp [sizeOf, typeInfo, hq, h4, hvl]
    have hr := run_storeAt (P := P) (t := t) hk (by simp [hvl, hl]) (by simpa using hS.o) hs
    refine ⟨W.setCells z 0 vs, ?_, blk_setAll vs hk (by simp [hvl, hl]), (setCells_far vs 0 W).1, (setCells_far vs 0 W).2⟩
    unfold execOp
    rw [ho]
    simp only [hp, hx]
    generalize Instr.storeAt t (.pointer (some ⟨z, 0, none⟩)) (.agg vs.toArray) = I at hr ⊢
    simp [go_sem, hr]
  · have : a'.put os.dst undef = a' := by rw [hS.d]; rfl
    rw [this]
    exact h2 W (H.out.stored hu hz hW)
end

/-! Which operation stands at the head: asked before a law is tried, so that what does not fit fails at once -/
section
variable {P : Program} {ops : Array Oper} {rest : List Oper} {o : Oper} {a : Act} {w : World} {Q : Exit → Act → World → Prop}
variable {d : Option Tmp} {ty : TypeId} {po : String} {af : Array Edge} {g : Option (Nat × Bool)}
theorem isLoad {t : TypeId} {p : Operand} (h : wpList P ops Q (⟨d, .load t p, ty, po, af, g⟩ :: rest) a w) : wpList P ops Q (⟨d, .load t p, ty, po, af, g⟩ :: rest) a w := h
theorem isStore {t : TypeId} {p x : Operand} (h : wpList P ops Q (⟨d, .store t p x, ty, po, af, g⟩ :: rest) a w) : wpList P ops Q (⟨d, .store t p x, ty, po, af, g⟩ :: rest) a w := h
theorem isBox {t : TypeId} {x : Operand} (h : wpList P ops Q (⟨d, .box t x, ty, po, af, g⟩ :: rest) a w) : wpList P ops Q (⟨d, .box t x, ty, po, af, g⟩ :: rest) a w := h
theorem isAlloc {t : TypeId} (h : wpList P ops Q (⟨d, .alloc t, ty, po, af, g⟩ :: rest) a w) : wpList P ops Q (⟨d, .alloc t, ty, po, af, g⟩ :: rest) a w := h
theorem kLoad {R : Act → Prop} {t : TypeId} {p : Operand} (h : wpKeep P ops w R (⟨d, .load t p, ty, po, af, g⟩ :: rest) a) : wpKeep P ops w R (⟨d, .load t p, ty, po, af, g⟩ :: rest) a := h
theorem kzLoad {z : Nat} {R : Act → Prop} {t : TypeId} {p : Operand} (h : wpKeepZ P ops w z R (⟨d, .load t p, ty, po, af, g⟩ :: rest) a) : wpKeepZ P ops w z R (⟨d, .load t p, ty, po, af, g⟩ :: rest) a := h
theorem kCall {R : Act → Prop} {c : Call} (h : wpKeep P ops w R (⟨d, .call c, ty, po, af, g⟩ :: rest) a) : wpKeep P ops w R (⟨d, .call c, ty, po, af, g⟩ :: rest) a := h
theorem kzCall {z : Nat} {R : Act → Prop} {c : Call} (h : wpKeepZ P ops w z R (⟨d, .call c, ty, po, af, g⟩ :: rest) a) : wpKeepZ P ops w z R (⟨d, .call c, ty, po, af, g⟩ :: rest) a := h
theorem kCons {R : Act → Prop} (h : wpKeep P ops w R (o :: rest) a) : wpKeep P ops w R (o :: rest) a := h
theorem kzCons {z : Nat} {R : Act → Prop} (h : wpKeepZ P ops w z R (o :: rest) a) : wpKeepZ P ops w z R (o :: rest) a := h
theorem wanted_none {y : Nat → Option Bool} (h : o.guard = none) : Region.wanted o y = true := by simp [Region.wanted, h]
end

/-! The results -/
section
variable {P : Program} {fn : Func} {tmps : Array Value} {w0 w : World} {l : Ents}
theorem results_H (H : Hid (Hp w0 w l)) {r : Nat} {t T : TypeId} {b n : Nat} {cs : List Value} (hr : fn.results = #[.cell r t]) (hT : RowT P t n) (hp : tmps.getD r undef = .pointer (some ⟨b, 0, none⟩)) (hm : (b, T, cs) ∈ l) (hl : cs.length = n) :
    (results fn tmps).run P w = .ok (.agg cs.toArray) w := results_B hr hp (H.out.get hm) hT (by simpa using hl)
theorem results_Hv (H : Hid (Hp w0 w l)) {r k : Nat} {t T : TypeId} {b n : Nat} {cs : List Value} {v : Value} (hr : fn.results = #[.cell r t, .tmp k]) (hT : RowT P t n) (hp : tmps.getD r undef = .pointer (some ⟨b, 0, none⟩)) (hm : (b, T, cs) ∈ l) (hv : tmps.getD k undef = v) (hl : cs.length = n) :
    (results fn tmps).run P w = .ok (.tuple #[.agg cs.toArray, v]) w := results_Bv hr hp hv (H.out.get hm) hT (by simpa using hl)
theorem results_HH (H : Hid (Hp w0 w l)) {r r2 : Nat} {t T t2 T2 : TypeId} {b n b2 n2 : Nat} {cs cs2 : List Value} (hr : fn.results = #[.cell r t, .cell r2 t2]) (hT : RowT P t n) (hT2 : RowT P t2 n2) (hp : tmps.getD r undef = .pointer (some ⟨b, 0, none⟩)) (hm : (b, T, cs) ∈ l) (hp2 : tmps.getD r2 undef = .pointer (some ⟨b2, 0, none⟩)) (hm2 : (b2, T2, cs2) ∈ l) (hl : cs.length = n) (hl2 : cs2.length = n2) :
    (results fn tmps).run P w = .ok (.tuple #[.agg cs.toArray, .agg cs2.toArray]) w := results_BB hr hp hp2 (H.out.get hm) (H.out.get hm2) hT hT2 (by simpa using hl) (by simpa using hl2)
end
end Go.Proofs.YtolekonocbeekaaDoor

namespace Go.Proofs.YtolekonocbeekaaDoor
open Go.RowKit
set_option linter.unusedVariables false
section
variable {P : Program} {ops : Array Oper} {rest : List Oper} {o : Oper} {a : Act} {w0 w : World} {l l' : Ents} {Q : Exit → Act → World → Prop}
theorem StoreOK.stores {os : Oper} {z m : Nat} {T : TypeId} {cs vs : List Value} (hS : StoreOK P os a z m vs) (hl : cs.length = m) : StoresZ P ops os a z (.cells cs.toArray T (0, 0)) (.cells vs.toArray T (0, 0)) := by
  obtain ⟨t, p, x, ho, hT, hp, hx⟩ := hS.op
  refine ⟨by simp [Region.wanted, hS.g], fun W hW => ?_⟩
  have hk : Blk W z T cs.toArray := hW
  have hvl := hS.l
  have hs : (sizeOf t).run P W = .ok vs.length W := by
    have h3 := hT.s
    cases hq : P.info? t with
    | none => simp [hq] at h3
    | some i =>
      have h4 : i.size = m := by simpa [hq] using h3
      simp [sizeOf, typeInfo, hq, h4, hvl]
  have hr := run_storeAt (P := P) (t := t) hk (by simp [hvl, hl]) (by simpa using hS.o) hs
  refine ⟨W.setCells z 0 vs, ?_, blk_setAll vs hk (by simp [hvl, hl]), (setCells_far vs 0 W).1, (setCells_far vs 0 W).2⟩
  unfold execOp
  rw [ho]
  simp only [hp, hx]
  generalize Instr.storeAt t (.pointer (some ⟨z, 0, none⟩)) (.agg vs.toArray) = I at hr ⊢
  simp [go_sem, hr]
/-- n operations read or call, a block is made, a whole struct stored into it: the reads and calls in any order. -/
theorem wp_region_G {id : Nat} {ol : List Oper} {o1 os : Oper} {t : TypeId} {cs vs : List Value} {m : Nat} (n : Nat) (H : Hid (Hp w0 w l)) (hm : P.follows .mixedOrders = true) (hB : Region.lexTailB .any ol.toArray (n + 2) = true)
    (ho1 : ol[n]? = some o1) (hos : ol[n + 1]? = some os) (hA : Allocs P ol.toArray o1 (.cells cs.toArray t)) (hdep : os.after.any (fun e => Region.binds .any e && e.on == n) = true) (hd : os.dst = none) (hl : cs.length = m)
    (h : wpKeep P ol.toArray w (fun a' => ∀ b, StoreOK P os (a'.put o1.dst (.pointer (some ⟨b, 0, none⟩))) b m vs ∧ ∀ W, Hid (Hp w0 W ((b, t, vs) :: l)) → wpList P ol.toArray Q (ol.drop (n + 2)) (a'.put o1.dst (.pointer (some ⟨b, 0, none⟩))) W) (ol.take n) a) : (Code.region id ol.toArray true).wp P Q a w := by
  refine wp_region_newput n (.cells cs.toArray t (0, 0)) (.cells vs.toArray t (0, 0)) hm hB ho1 hos hA hdep ?_
  have mono : ∀ (l' : List Oper) (a : Act) {R R' : Act → Prop}, (∀ a, R a → R' a) → wpKeep P ol.toArray w R l' a → wpKeep P ol.toArray w R' l' a := by
    intro l'
    induction l' with
    | nil => intro a R R' hR h; exact hR _ h
    | cons o r ih =>
      intro a R R' hR h
      unfold wpKeep at h ⊢
      split
      · rename_i hw
        rw [if_pos hw] at h
        obtain ⟨v, h1, h2⟩ := h
        exact ⟨v, h1, ih _ hR h2⟩
      · rename_i hw
        rw [if_neg hw] at h
        exact ih _ hR h
  refine mono _ a (fun a' h1 z hz => ?_) h
  obtain ⟨hS, h2⟩ := h1 z
  refine ⟨hS.stores hl, fun W hW hW2 => ?_⟩
  have e : (a'.put o1.dst (.pointer (some ⟨z, 0, none⟩))).put os.dst undef = a'.put o1.dst (.pointer (some ⟨z, 0, none⟩)) := by rw [hd]; rfl
  rw [e]
  exact h2 W (H.out.fresh hW hz hW2)
end
end Go.Proofs.YtolekonocbeekaaDoor

namespace Go.Proofs.YtolekonocbeekaaDoor
open Go.RowKit
set_option linter.unusedVariables false

theorem Hp.drop {w0 w : World} {l : Ents} {x : Nat × TypeId × List Value} (h : Hp w0 w (x :: l)) : Hp w0 w l := ⟨fun y hy => h.blk y (.tail _ hy), (List.nodup_cons.1 h.nd).2, h.bel, h.t0⟩
def ovOf : Ents → Ov
  | [] => fun _ => none
  | (g, t, cs) :: l => (ovOf l).put g (.cells cs.toArray t (0, 0))
theorem ovOf_some {l : Ents} {k : Nat} {b : Obj} (h : ovOf l k = some b) : ∃ x ∈ l, x.1 = k := by
  induction l with
  | nil => cases h
  | cons x l ih =>
    obtain ⟨g, t, cs⟩ := x
    unfold ovOf Ov.put at h
    by_cases hk : k = g
    · exact ⟨_, .head _, hk.symm⟩
    · rw [if_neg hk] at h
      obtain ⟨x, hx, he⟩ := ih h
      exact ⟨x, .tail _ hx, he⟩
theorem ovOf_mem {l : Ents} (hn : (l.map (·.1)).Nodup) {x : Nat × TypeId × List Value} (hx : x ∈ l) : ovOf l x.1 = some (.cells x.2.2.toArray x.2.1 (0, 0)) := by
  induction l with
  | nil => cases hx
  | cons y l ih =>
    obtain ⟨g, t, cs⟩ := y
    rw [List.map_cons, List.nodup_cons] at hn
    unfold ovOf Ov.put
    rcases List.mem_cons.1 hx with rfl | hx
    · rw [if_pos rfl]
    · rw [if_neg (fun e => hn.1 (by rw [← e]; exact List.mem_map.2 ⟨x, hx, rfl⟩))]
      exact ih hn.2 hx
theorem ovOf_mem_b {l : Ents} (hn : (l.map (·.1)).Nodup) {k : Nat} {b : Obj} (h : ovOf l k = some b) : ∃ x ∈ l, x.1 = k ∧ b = .cells x.2.2.toArray x.2.1 (0, 0) := by
  obtain ⟨x, hx, rfl⟩ := ovOf_some h
  have := ovOf_mem hn hx
  rw [h] at this
  injection this with this
  exact ⟨x, hx, rfl, this⟩
theorem ovOf_upd {l l' : Ents} {z : Nat} {T : TypeId} {cs ds : List Value} (h : Upd l z T cs ds l') (hn : (l.map (·.1)).Nodup) : ovOf l' = (ovOf l).put z (.cells ds.toArray T (0, 0)) := by
  induction h with
  | head =>
    rename_i z _ _ _ _
    funext k
    show Ov.put (ovOf _) _ _ k = Ov.put (Ov.put (ovOf _) _ _) _ _ k
    unfold Ov.put
    by_cases hk : k = z
    · rw [if_pos hk, if_pos hk]
    · rw [if_neg hk, if_neg hk, if_neg hk]
  | tail h ih =>
    rename_i z _ _ _ l1 l2 y
    obtain ⟨g, t, es⟩ := y
    rw [List.map_cons, List.nodup_cons] at hn
    have hne : z ≠ g := fun e => hn.1 (by rw [← e]; exact List.mem_map.2 ⟨_, h.mem, rfl⟩)
    show (ovOf l2).put g _ = ((ovOf l1).put g _).put z _
    rw [ih hn.2, Ov.put_comm _ _ _ hne]

section
variable {P : Program} {ops : Array Oper} {rest : List Oper} {o : Oper} {a : Act} {w0 w : World} {l l' : Ents} {Q : Exit → Act → World → Prop} {kd : Nat → Kd} {k : Nat} {R : Act → Ents → Prop}
def YieldsL (P : Program) (ops : Array Oper) (w0 w : World) (l : Ents) (o : Oper) (v : Value) (a : Act) : Prop :=
  (Region.wanted o (yielded ops a.tmps) = true ∧ ∀ W, (ovOf l).ok w W → Hid (Hp w0 W l) → keepsAt P o a W v) ∨ (Region.wanted o (yielded ops a.tmps) = false ∧ v = undef)
/-- The walk over the list of blocks. -/
def wpL (P : Program) (ops : Array Oper) (w0 w : World) (kd : Nat → Kd) (R : Act → Ents → Prop) : Nat → List Oper → Act → Ents → Prop
  | _, [], a, l => R a l
  | k, o :: os, a, l =>
    (kd k = .q ∧ ∃ v, YieldsL P ops w0 w l o v a ∧ wpL P ops w0 w kd R (k + 1) os (a.put o.dst v) l) ∨
    (kd k = .p ∧ ∃ v, YieldsP P ops (fun _ => True) w o v a ∧ wpL P ops w0 w kd R (k + 1) os (a.put o.dst v) l) ∨
    (kd k = .a ∧ ∃ mk t cs, AllocsAt P ops o a mk (.cells cs.toArray t (0, 0)) ∧ ∀ g, wpL P ops w0 w kd R (k + 1) os (a.put o.dst (mk g)) ((g, t, cs) :: l)) ∨
    (kd k = .s ∧ ∃ z T cs ds l', Upd l z T cs ds l' ∧ StoresZ P ops o a z (.cells cs.toArray T (0, 0)) (.cells ds.toArray T (0, 0)) ∧ wpL P ops w0 w kd R (k + 1) os (a.put o.dst undef) l')
theorem wpL_nil (h : R a l) : wpL P ops w0 w kd R k [] a l := h
theorem wpL_P {v : Value} (hp : kd k = .p) (hg : Region.wanted o (yielded ops a.tmps) = true) (hr : ∀ W, (execOp a.eval o).run P W = .ok (.value v) W) (h : wpL P ops w0 w kd R (k + 1) rest (a.put o.dst v) l) : wpL P ops w0 w kd R k (o :: rest) a l :=
  .inr (.inl ⟨hp, v, .inl ⟨hg, fun W _ => by unfold keepsAt; rw [hr W]; exact ⟨rfl, rfl⟩⟩, h⟩)
theorem wpL_C {v : Value} (hp : kd k = .q) (hg : Region.wanted o (yielded ops a.tmps) = true) (hr : ∀ W, Hid (Hp w0 W l) → keepsAt P o a W v) (h : wpL P ops w0 w kd R (k + 1) rest (a.put o.dst v) l) : wpL P ops w0 w kd R k (o :: rest) a l :=
  .inl ⟨hp, v, .inl ⟨hg, fun W _ hW => hr W hW⟩, h⟩
theorem wpL_load {t T : TypeId} {p : Operand} {b j n : Nat} {cs ds : List Value} (hk : kd k = .q) (ho : o.op = .load t p) (hg : Region.wanted o (yielded ops a.tmps) = true) (hT : RowT P t n) (hp : a.eval p = .pointer (some ⟨b, j, none⟩))
    (hm : (b, T, cs) ∈ l) (hx : (cs.drop j).take n = ds) (hl : ds.length = n) (h : wpL P ops w0 w kd R (k + 1) rest (a.put o.dst (.agg ds.toArray)) l) : wpL P ops w0 w kd R k (o :: rest) a l :=
  wpL_C hk hg (fun W hW => by
    have hr := run_loadB (P := P) (t := t) (k := j) (hW.out.get hm) hT (by simpa using hx) hl
    unfold keepsAt execOp
    simp only [ho, hp, hr, Sem.run_bind, Sem.run_pure, Result.andThen_ok]
    exact ⟨rfl, rfl⟩) h
theorem wpL_A {t : TypeId} {cs : List Value} (hp : kd k = .a) (hA : Allocs P ops o (.cells cs.toArray t)) (h : ∀ g, wpL P ops w0 w kd R (k + 1) rest (a.put o.dst (.pointer (some ⟨g, 0, none⟩))) ((g, t, cs) :: l)) : wpL P ops w0 w kd R k (o :: rest) a l :=
  .inr (.inr (.inl ⟨hp, fun g => .pointer (some ⟨g, 0, none⟩), t, cs, ⟨(hA a w).1, fun W => (hA a W).2⟩, h⟩))
theorem wpL_V (t : TypeId) (cs : List Value) (n : Nat) (hp : kd k = .a) (hg : o.guard = none) (hr : ∀ W : World, (execOp a.eval o).run P W = .ok (.value (.slice (some ⟨W.heap.size, 0, none⟩) n n)) (W.alloc (.cells cs.toArray t)))
    (h : ∀ g, wpL P ops w0 w kd R (k + 1) rest (a.put o.dst (.slice (some ⟨g, 0, none⟩) n n)) ((g, t, cs) :: l)) : wpL P ops w0 w kd R k (o :: rest) a l :=
  .inr (.inr (.inl ⟨hp, fun g => .slice (some ⟨g, 0, none⟩) n n, t, cs, ⟨by simp [Region.wanted, hg], hr⟩, h⟩))
theorem storesZ_part {t T : TypeId} {p x : Operand} {z off c : Nat} {cs vs ds : List Value} (ho : o.op = .store t p x) (hg : o.guard = none) (hT : RowT P t c) (hp : a.eval p = .pointer (some ⟨z, off, none⟩)) (hx : a.eval x = .agg vs.toArray)
    (hl : vs.length = c) (hc : cs.take off ++ vs ++ cs.drop (off + c) = ds) (hk : off + c ≤ cs.length) (h1 : vs.all (·.oneCell') = true) : StoresZ P ops o a z (.cells cs.toArray T (0, 0)) (.cells ds.toArray T (0, 0)) := by
  refine ⟨by simp [Region.wanted, hg], fun W hW => ?_⟩
  have hb : Blk W z T cs.toArray := hW
  have hr := run_storeAt_mid (P := P) W z off t vs.toArray (there_of hb (by simpa [hl] using hk)) (by rw [hT.s]; simp [hl]) (all_oneCell_toArray (by simpa using h1))
  have h2 := blk_splice vs off cs.toArray W hb (by simpa [hl] using hk)
  rw [hl] at h2
  simp only [hc] at h2
  refine ⟨W.setCells z off vs, ?_, h2, (setCells_far vs off W).1, (setCells_far vs off W).2⟩
  unfold execOp
  rw [ho]
  simp only [hp, hx]
  generalize Instr.storeAt t (.pointer (some ⟨z, off, none⟩)) (.agg vs.toArray) = I at hr ⊢
  simp [go_sem, hr]
theorem wpL_S {t T : TypeId} {p x : Operand} {z off c : Nat} {cs vs ds : List Value} (hP : kd k = .s) (ho : o.op = .store t p x) (hg : o.guard = none) (hd : o.dst = none) (hT : RowT P t c) (hp : a.eval p = .pointer (some ⟨z, off, none⟩)) (hx : a.eval x = .agg vs.toArray)
    (hu : Upd l z T cs ds l') (hl : vs.length = c) (hc : cs.take off ++ vs ++ cs.drop (off + c) = ds) (hk : off + c ≤ cs.length) (h2 : vs.all (·.oneCell') = true) (h : wpL P ops w0 w kd R (k + 1) rest a l') : wpL P ops w0 w kd R k (o :: rest) a l :=
  .inr (.inr (.inr ⟨hP, z, T, cs, ds, l', hu, storesZ_part ho hg hT hp hx hl hc hk h2, by rw [hd]; exact h⟩))

theorem Hp.of_ov {W : World} (h : Hp w0 w l) (nd : (l'.map (·.1)).Nodup) (lo : ∀ x ∈ l', w0.heap.size ≤ x.1) (hok : (ovOf l').ok w W) : Hp w0 W l' :=
  ⟨fun x hx => ⟨lo x hx, hok.has _ _ (ovOf_mem nd hx)⟩, nd, h.bel.trans ⟨hok.all.os, hok.all.tape, hok.all.output, hok.all.size, fun k hk => hok.keep k (Nat.lt_of_lt_of_le hk h.bel.size) (by
    cases hu : ovOf l' k with
    | none => rfl
    | some b =>
      obtain ⟨x, hx, he⟩ := ovOf_some hu
      have := lo x hx
      omega)⟩, h.t0⟩
theorem wpU_of (h0 : Hp w0 w l) {R' : Act → Ov → Prop} (os : List Oper) : ∀ (k : Nat) (a : Act) (l1 : Ents), (l1.map (·.1)).Nodup → (∀ x ∈ l1, w0.heap.size ≤ x.1) →
    (∀ a' l2, (l2.map (·.1)).Nodup → (∀ x ∈ l2, w0.heap.size ≤ x.1) → R a' l2 → R' a' (ovOf l2)) → wpL P ops w0 w kd R k os a l1 → wpU P ops (fun _ => True) w kd R' k os a (ovOf l1) := by
  induction os with
  | nil => intro k a l1 nd lo hR h; exact hR a l1 nd lo h
  | cons o os ih =>
    intro k a l1 nd lo hR h
    show Eff P ops (fun _ => True) w o a (ovOf l1) (wpU P ops (fun _ => True) w kd R' (k + 1) os) (kd k)
    rcases h with ⟨hp, v, hy, hK⟩ | ⟨hp, v, hy, hK⟩ | ⟨hp, mk, t, cs, hA, hK⟩ | ⟨hp, z, T, cs, ds, l2, hu, hS, hK⟩
    · rw [hp]
      refine ⟨v, ?_, ih _ _ _ nd lo hR hK⟩
      rcases hy with ⟨y1, y2⟩ | y
      · exact .inl ⟨y1, fun W hW => y2 W hW (Lib.hid (h0.of_ov nd lo hW))⟩
      · exact .inr y
    · rw [hp]
      exact ⟨v, hy, ih _ _ _ nd lo hR hK⟩
    · rw [hp]
      refine ⟨mk, _, hA, fun g hg hf => ih _ _ ((g, t, cs) :: l1) ?_ ?_ hR (hK g)⟩
      · rw [List.map_cons, List.nodup_cons]
        refine ⟨fun hm => ?_, nd⟩
        obtain ⟨x, hx, he⟩ := List.mem_map.1 hm
        have := ovOf_mem nd hx
        rw [he, hf] at this
        cases this
      · intro x hx
        rcases List.mem_cons.1 hx with rfl | hx
        · exact Nat.le_trans h0.bel.size hg
        · exact lo x hx
    · rw [hp]
      have e := ovOf_upd hu nd
      refine ⟨z, _, _, undef, .inl trivial, ovOf_mem nd hu.mem, hS.v, ?_⟩
      rw [← e]
      refine ih _ _ l2 (by rw [hu.fst]; exact nd) ?_ hR hK
      exact hu.all (p := fun x => w0.heap.size ≤ x.1) (q := fun x => w0.heap.size ≤ x.1) nd (fun x _ _ hx => hx) (lo (z, T, cs) hu.mem) lo
/-- The first operations by wpKeep. -/
theorem wpL_pre (H : Hid (Hp w0 w l)) (l1 : List Oper) : ∀ (k : Nat) (a : Act), (∀ j, j < l1.length → kd (k + j) = .q) → wpKeep P ops w (fun a' => wpL P ops w0 w kd R (k + l1.length) rest a' l) l1 a → wpL P ops w0 w kd R k (l1 ++ rest) a l := by
  have hst : (ovOf l).still w := fun k b _ hu => by
    obtain ⟨x, hx, rfl, rfl⟩ := ovOf_mem_b H.out.nd hu
    exact (H.out.blk x hx).2
  induction l1 with
  | nil => intro k a _ h; exact h
  | cons o l1 ih =>
    intro k a hk h
    obtain ⟨v, hy, hK⟩ := yieldsK_of_wpKeep h
    refine .inl ⟨by simpa using hk 0 (by simp), v, ?_, ih (k + 1) _ (fun j hj => by rw [show k + 1 + j = k + (j + 1) by omega]; exact hk (j + 1) (by simp; omega)) (by rw [show k + 1 + l1.length = k + (o :: l1).length by simp only [List.length_cons]; omega]; exact hK)⟩
    rcases hy with ⟨y1, y2⟩ | y
    · exact .inl ⟨y1, fun W hW _ => y2 ⟨W, hW.below hst⟩⟩
    · exact .inr y
theorem wp_region_U {id : Nat} {ol : List Oper} (q N : Nat) (ks : List Kd) (H : Hid (Hp w0 w l)) (hm : P.follows .mixedOrders = true) (hB : Region.lexTailB .any ol.toArray N = true) (hE : edgesU .any ol.toArray (fun k => (List.replicate q Kd.q ++ ks).getD k .q) N = true) (hq : q ≤ N)
    (h : wpKeep P ol.toArray w (fun a' => wpL P ol.toArray w0 w (fun k => (List.replicate q Kd.q ++ ks).getD k .q) (fun a'' l' => ∀ W, Hid (Hp w0 W l') → wpList P ol.toArray Q (ol.drop N) a'' W) q ((ol.drop q).take (N - q)) a' l) (ol.take q) a) : (Code.region id ol.toArray true).wp P Q a w := by
  have hok : (ovOf l).ok w w := ⟨Below.refl 0 w, fun _ _ _ => rfl, fun k b hu => by
    obtain ⟨x, hx, rfl, rfl⟩ := ovOf_mem_b H.out.nd hu
    exact (H.out.blk x hx).2⟩
  have hN : N < ol.length := by
    simp only [Region.lexTailB, Bool.and_eq_true, decide_eq_true_eq] at hB
    simpa using hB.1.1.1.2
  refine wp_region_uni N _ (ovOf l) ⟨w.heap.size, fun g b hu => ?_⟩ hok (fun _ _ _ h _ => absurd trivial h) hm hB hE ?_
  · obtain ⟨x, hx, rfl, _⟩ := ovOf_mem_b H.out.nd hu
    exact H.out.lt hx
  have hs : ol.take N = ol.take q ++ (ol.drop q).take (N - q) := by
    rw [← List.take_append_drop q (ol.take N), List.take_take, Nat.min_eq_left hq, List.drop_take]
  have hql : (ol.take q).length = q := by simp; omega
  rw [hs]
  refine wpU_of (R := fun a'' l' => ∀ W, Hid (Hp w0 W l') → wpList P ol.toArray Q (ol.drop N) a'' W) H.out _ 0 a l H.out.nd (fun x hx => (H.out.blk x hx).1) (fun a'' l2 nd lo hR W hW => hR W (H.out.of_ov nd lo hW)) (wpL_pre H (ol.take q) 0 a (fun j hj => ?_) ?_)
  · rw [hql] at hj
    simp [List.getD_eq_getElem?_getD, List.getElem?_append, hj]
  · rw [hql, Nat.zero_add]
    exact h
end
end Go.Proofs.YtolekonocbeekaaDoor

namespace Go.Proofs.YtolekonocbeekaaDoor
open Go.RowKit
set_option linter.unusedVariables false
set_option maxRecDepth 100000

theorem rRat : RowT Tryd.prog 24 3 := ⟨⟨_, Tryd.underlying24, rfl⟩, by kernel_rfl⟩
theorem rSpan : RowT Tryd.prog 26 6 := ⟨⟨_, Tryd.underlying26, rfl⟩, by kernel_rfl⟩
theorem rPose : RowT Tryd.prog 28 18 := ⟨⟨_, Tryd.underlying28, rfl⟩, by kernel_rfl⟩
theorem rFrame : RowT Tryd.prog 35 10 := ⟨⟨_, Tryd.underlying35, rfl⟩, by kernel_rfl⟩
theorem rVec : RowT Tryd.prog 31 6 := ⟨⟨_, Tryd.underlying31, rfl⟩, by kernel_rfl⟩
theorem rTurn : RowT Tryd.prog 33 4 := ⟨⟨_, Tryd.underlying33, rfl⟩, by kernel_rfl⟩
theorem rBox : RowT Tryd.prog 57 12 := ⟨⟨_, Tryd.underlying57, rfl⟩, by kernel_rfl⟩
theorem zRat : (Tryd.prog.info? 24).bind (·.zero) = some (.agg #[.bool false, .string ⟨#[]⟩, .string ⟨#[]⟩]) := by kernel_rfl
theorem zSpan : (Tryd.prog.info? 26).bind (·.zero) = some (.agg #[.bool false, .string ⟨#[]⟩, .string ⟨#[]⟩, .bool false, .string ⟨#[]⟩, .string ⟨#[]⟩]) := by kernel_rfl
theorem zPose : (Tryd.prog.info? 28).bind (·.zero) = some (.agg #[.bool false, .string ⟨#[]⟩, .string ⟨#[]⟩, .bool false, .string ⟨#[]⟩, .string ⟨#[]⟩, .bool false, .string ⟨#[]⟩, .string ⟨#[]⟩, .bool false, .string ⟨#[]⟩, .string ⟨#[]⟩, .bool false, .string ⟨#[]⟩, .string ⟨#[]⟩, .bool false, .string ⟨#[]⟩, .string ⟨#[]⟩]) := by kernel_rfl
theorem zFrame : (Tryd.prog.info? 35).bind (·.zero) = some (.agg #[.bool false, .string ⟨#[]⟩, .string ⟨#[]⟩, .bool false, .string ⟨#[]⟩, .string ⟨#[]⟩, .bool false, .bool false, .string ⟨#[]⟩, .string ⟨#[]⟩]) := by kernel_rfl
theorem zVec : (Tryd.prog.info? 31).bind (·.zero) = some (.agg #[.bool false, .string ⟨#[]⟩, .string ⟨#[]⟩, .bool false, .string ⟨#[]⟩, .string ⟨#[]⟩]) := by kernel_rfl
theorem zTurn : (Tryd.prog.info? 33).bind (·.zero) = some (.agg #[.bool false, .bool false, .string ⟨#[]⟩, .string ⟨#[]⟩]) := by kernel_rfl
theorem zBox : (Tryd.prog.info? 57).bind (·.zero) = some (.agg #[.bool false, .string ⟨#[]⟩, .string ⟨#[]⟩, .bool false, .string ⟨#[]⟩, .string ⟨#[]⟩, .bool false, .string ⟨#[]⟩, .string ⟨#[]⟩, .bool false, .string ⟨#[]⟩, .string ⟨#[]⟩]) := by kernel_rfl
theorem kBool : ∃ d, Tryd.prog.underlying 4 = some d ∧ d.isRow = false := ⟨_, Tryd.underlying4, rfl⟩
theorem sBool : (Tryd.prog.info? 4).map (·.size) = some 1 := by kernel_rfl
theorem kStr : ∃ d, Tryd.prog.underlying 9 = some d ∧ d.isRow = false := ⟨_, Tryd.underlying9, rfl⟩
theorem sStr : (Tryd.prog.info? 9).map (·.size) = some 1 := by kernel_rfl
theorem kInt : ∃ d, Tryd.prog.underlying 3 = some d ∧ d.isRow = false := ⟨_, Tryd.underlying3, rfl⟩
theorem sInt : (Tryd.prog.info? 3).map (·.size) = some 1 := by kernel_rfl

/-- Is the one span within the other? -/
def inS (a b c d : Option Rat) : Bool := decide ((nmS c d).1 ≤ (nmS a b).1 ∧ (nmS a b).2 ≤ (nmS c d).2)
/-- Is a number in the span? -/
def hasS (a b r : Option Rat) : Bool := decide ((nmS a b).1 ≤ valO r ∧ valO r ≤ (nmS a b).2)
end Go.Proofs.YtolekonocbeekaaDoor

namespace Go.Proofs.YtolekonocbeekaaDoor
open Go.RowKit
set_option linter.unusedVariables false

theorem wanted_some {o : Oper} {y : Nat → Option Bool} {i : Nat} {b : Bool} (h : o.guard = some (i, b)) (hy : y i = some b) : Region.wanted o y = true := by simp [Region.wanted, h, hy]
theorem wpK_skip {P : Program} {ops : Array Oper} {w : World} {R : Act → Prop} {a : Act} {o : Oper} {rest : List Oper} {i : Nat} {b : Bool} (h : o.guard = some (i, b)) (hy : yielded ops a.tmps i = some (!b)) (hK : wpKeep P ops w R rest (a.put o.dst undef)) : wpKeep P ops w R (o :: rest) a := by
  unfold wpKeep
  rw [if_neg (by simp [Region.wanted, h, hy])]
  exact hK
/-- What is known of the call's own blocks. -/
abbrev Ow := Nat → Option (TypeId × List Value)
def Ow.put (U : Ow) (g : Nat) (b : TypeId × List Value) : Ow := fun k => if k = g then some b else U k
theorem Ow.put_same (U : Ow) (g : Nat) (b : TypeId × List Value) : U.put g b g = some b := if_pos rfl
theorem Ow.put_ne (U : Ow) {g k : Nat} (b : TypeId × List Value) (h : k ≠ g) : U.put g b k = U k := if_neg h
theorem Ow.put_comm (U : Ow) {g h : Nat} (b c : TypeId × List Value) (hne : g ≠ h) : (U.put g b).put h c = (U.put h c).put g b := by
  funext k
  by_cases h1 : k = h
  · subst h1; rw [Ow.put_same, Ow.put_ne _ _ (Ne.symm hne), Ow.put_same]
  · rw [Ow.put_ne _ _ h1]
    by_cases h2 : k = g
    · subst h2; rw [Ow.put_same, Ow.put_same]
    · rw [Ow.put_ne _ _ h2, Ow.put_ne _ _ h2, Ow.put_ne _ _ h1]
def Ow.fin (U : Ow) : Prop := ∃ x, ∀ g b, U g = some b → g < x
theorem Ow.fin.put {U : Ow} (h : U.fin) (g : Nat) (b : TypeId × List Value) : (U.put g b).fin := by
  obtain ⟨x, hx⟩ := h
  refine ⟨max x (g + 1), fun k c hu => ?_⟩
  by_cases hk : k = g
  · omega
  · rw [Ow.put_ne _ _ hk] at hu
    have := hx _ _ hu
    omega
theorem Ow.fin.new {U : Ow} (h : U.fin) (n : Nat) : ∃ g, n ≤ g ∧ U g = none := by
  obtain ⟨x, hx⟩ := h
  refine ⟨max x n, Nat.le_max_right _ _, ?_⟩
  cases hu : U (max x n) with
  | none => rfl
  | some c => have := hx _ _ hu; omega
structure HU (w0 W : World) (U : Ow) : Prop where
  blk : ∀ k x, U k = some x → w0.heap.size ≤ k ∧ Blk W k x.1 x.2.toArray
  bel : Below w0.heap.size w0 W
  t0 : Tb w0
theorem HU.go {w0 W W' : World} {U : Ow} (h : HU w0 W U) (hb : Below W.heap.size W W') : HU w0 W' U :=
  ⟨fun k x hu => ⟨(h.blk k x hu).1, (h.blk k x hu).2.below hb (h.blk k x hu).2.lt⟩, h.bel.trans (hb.mono h.bel.size), h.t0⟩
theorem HU.new {w0 W : World} {U : Ow} (h : HU w0 W U) : U W.heap.size = none := by
  cases hu : U W.heap.size with
  | none => rfl
  | some b =>
    have := (h.blk _ _ hu).2.lt
    omega
theorem HU.alloc {w0 W : World} {U : Ow} (h : HU w0 W U) (t : TypeId) (cs : List Value) : HU w0 (W.alloc (.cells cs.toArray t)) (U.put W.heap.size (t, cs)) := by
  have hg := h.go ((Below.refl W.heap.size W).alloc (Nat.le_refl _) (.cells cs.toArray t))
  refine ⟨fun k x hu => ?_, hg.bel, h.t0⟩
  by_cases hk2 : k = W.heap.size
  · subst hk2
    rw [Ow.put_same] at hu
    injection hu with hu
    subst hu
    exact ⟨h.bel.size, Blk.new W t cs.toArray⟩
  · rw [Ow.put_ne _ _ hk2] at hu; exact hg.blk k x hu
def Ow.le (U0 U : Ow) : Prop := ∀ k x, U0 k = some x → U k = some x
theorem HU.less {w0 W : World} {U U0 : Ow} (h : HU w0 W U) (hl : U0.le U) : HU w0 W U0 := ⟨fun k x hu => h.blk k x (hl k x hu), h.bel, h.t0⟩
theorem Ow.le.put {U0 U : Ow} (h : U0.le U) {z : Nat} (b : TypeId × List Value) (hz : U0 z = none) : U0.le (U.put z b) := fun k x hu => by
  have : k ≠ z := fun e => by subst e; rw [hz] at hu; cases hu
  rw [Ow.put_ne _ _ this]
  exact h k x hu
theorem Ow.le.none {U0 U : Ow} (h : U0.le U) {z : Nat} (hz : U z = none) : U0 z = none := by
  cases hu : U0 z with
  | none => rfl
  | some x => rw [h z x hu] at hz; cases hz

def upH (P : Program) (w0 : World) (U : Ow) (W : World) (v : Value) : Result Next → Prop
  | .ok (.value u) W' => u = v ∧ HU w0 W' U
  | .ok .skip W' => v = undef ∧ HU w0 W' U
  | .ok (.enter f args) W' => W' = W ∧ Calls P f args W (fun e W'' => e = .returned v ∧ HU w0 W'' U)
  | _ => False

section
variable {P : Program} {ops : Array Oper} {md : Region.Mode} {w0 : World} {U0 : Ow}
def YieldsW (P : Program) (ops : Array Oper) (w0 : World) (U0 : Ow) (o : Oper) (v : Value) (a : Act) : Prop :=
  (Region.wanted o (yielded ops a.tmps) = true ∧ ∀ W, HU w0 W U0 → keepsAt P o a W v) ∨ (Region.wanted o (yielded ops a.tmps) = false ∧ v = undef)
def StoresW (P : Program) (ops : Array Oper) (w0 : World) (U0 : Ow) (o : Oper) (a : Act) (z : Nat) (b0 b1 : TypeId × List Value) (v : Value) : Prop :=
  Region.wanted o (yielded ops a.tmps) = true ∧ ∀ U W, HU w0 W U → U.fin → U0.le U → U z = some b0 → upH P w0 (U.put z b1) W v ((execOp a.eval o).run P W)
def EffW (P : Program) (ops : Array Oper) (w0 : World) (U0 : Ow) (o : Oper) (a : Act) (U : Ow) (K : Act → Ow → Prop) : Kd → Prop
  | .q => False
  | .p => ∃ v, YieldsW P ops w0 U0 o v a ∧ K (a.put o.dst v) U
  | .a => ∃ mk t cs, AllocsAt P ops o a mk (.cells cs.toArray t) ∧ ∀ g, w0.heap.size ≤ g → U g = none → K (a.put o.dst (mk g)) (U.put g (t, cs))
  | .s => ∃ z b0 b1 v, U0 z = none ∧ U z = some b0 ∧ StoresW P ops w0 U0 o a z b0 b1 v ∧ K (a.put o.dst v) (U.put z b1)
theorem EffW.mono {o : Oper} {a : Act} {U : Ow} {K K' : Act → Ow → Prop} {k : Kd} (hK : ∀ a U, K a U → K' a U) (h : EffW P ops w0 U0 o a U K k) : EffW P ops w0 U0 o a U K' k := by
  cases k with
  | q => exact h.elim
  | p => obtain ⟨v, h1, h2⟩ := h; exact ⟨v, h1, hK _ _ h2⟩
  | a => obtain ⟨mk, t, cs, h1, h2⟩ := h; exact ⟨mk, t, cs, h1, fun g h3 h4 => hK _ _ (h2 g h3 h4)⟩
  | s => obtain ⟨z, b0, b1, v, h0, h1, h2, h3⟩ := h; exact ⟨z, b0, b1, v, h0, h1, h2, hK _ _ h3⟩
section
variable {oi oj : Oper} {a : Act} {U : Ow} {K : Act → Ow → Prop}
theorem cells_inj {cs cs' : List Value} {t t' : TypeId} (h : Obj.cells cs.toArray t (0, 0) = Obj.cells cs'.toArray t' (0, 0)) : cs = cs' ∧ t = t' := by
  injection h with h1 h2
  exact ⟨by simpa using h1, h2⟩
/-- What may change places does. -/
theorem EffW.comm {ki kj : Kd} (hn : needE ki kj = false) (si : ∀ cs b, oi.op ≠ .select cs b) (sj : ∀ cs b, oj.op ≠ .select cs b) (hap : oi.apart ops oj = true) (hU : U.fin)
    (h : EffW P ops w0 U0 oi a U (fun a1 U1 => EffW P ops w0 U0 oj a1 U1 K kj) ki) : EffW P ops w0 U0 oj a U (fun a2 U2 => EffW P ops w0 U0 oi a2 U2 K ki) kj := by
  obtain ⟨h1, h2, h3⟩ := Oper.apart_spec hap
  have ej : ∀ u, execOp (a.put oi.dst u).eval oj = execOp a.eval oj := fun u => execOp_put oj sj a oi.dst u h1
  have wj : ∀ u, Region.wanted oj (yielded ops (a.put oi.dst u).tmps) = Region.wanted oj (yielded ops a.tmps) := fun u => wanted_put oj a oi.dst u h1
  have ei : ∀ u, execOp (a.put oj.dst u).eval oi = execOp a.eval oi := fun u => execOp_put oi si a oj.dst u h3
  have wi : ∀ u, Region.wanted oi (yielded ops (a.put oj.dst u).tmps) = Region.wanted oi (yielded ops a.tmps) := fun u => wanted_put oi a oj.dst u h3
  have pj : ∀ {v u}, YieldsW P ops w0 U0 oj v (a.put oi.dst u) → YieldsW P ops w0 U0 oj v a := fun hy => by unfold YieldsW keepsAt at *; rw [ej, wj] at hy; exact hy
  have aj : ∀ {mk b u}, AllocsAt P ops oj (a.put oi.dst u) mk b → AllocsAt P ops oj a mk b := fun hy => by unfold AllocsAt at *; rw [ej, wj] at hy; exact hy
  have sj' : ∀ {z b0 b1 v u}, StoresW P ops w0 U0 oj (a.put oi.dst u) z b0 b1 v → StoresW P ops w0 U0 oj a z b0 b1 v := fun hy => by unfold StoresW at *; rw [ej, wj] at hy; exact hy
  have pi' : ∀ {v u}, YieldsW P ops w0 U0 oi v a → YieldsW P ops w0 U0 oi v (a.put oj.dst u) := fun hy => by unfold YieldsW keepsAt at *; rw [ei, wi]; exact hy
  have ai : ∀ {mk b u}, AllocsAt P ops oi a mk b → AllocsAt P ops oi (a.put oj.dst u) mk b := fun hy => by unfold AllocsAt at *; rw [ei, wi]; exact hy
  have si' : ∀ {z b0 b1 v u}, StoresW P ops w0 U0 oi a z b0 b1 v → StoresW P ops w0 U0 oi (a.put oj.dst u) z b0 b1 v := fun hy => by unfold StoresW at *; rw [ei, wi]; exact hy
  have pc : ∀ v u, (a.put oj.dst u).put oi.dst v = (a.put oi.dst v).put oj.dst u := fun v u => (Act.put_comm a v u h2).symm
  cases ki <;> cases kj <;> simp only [needE] at hn
  all_goals first | exact absurd hn (by decide) | exact h.elim | skip
  all_goals first | (obtain ⟨_, _, h0⟩ := h; exact h0.elim) | skip
  · obtain ⟨v, hv, u, hu, hK⟩ := h
    exact ⟨u, pj hu, v, pi' hv, by rw [pc]; exact hK⟩
  · obtain ⟨v, hv, mk, t, cs, hA, hK⟩ := h
    exact ⟨mk, t, cs, aj hA, fun g hg hf => ⟨v, pi' hv, by rw [pc]; exact hK g hg hf⟩⟩
  · obtain ⟨v, hv, z, b0, b1, x, hZ, hz, hS, hK⟩ := h
    exact ⟨z, b0, b1, x, hZ, hz, sj' hS, v, pi' hv, by rw [pc]; exact hK⟩
  · obtain ⟨mk, t, cs, hA, H⟩ := h
    obtain ⟨g0, hg0, hf0⟩ := hU.new w0.heap.size
    obtain ⟨mk', t', cs', hA', _⟩ := H g0 hg0 hf0
    refine ⟨mk', t', cs', aj hA', fun g' hg' hf' => ⟨mk, t, cs, ai hA, fun g hg hf => ?_⟩⟩
    have hne : g ≠ g' := fun e => by subst e; rw [Ow.put_same] at hf; cases hf
    rw [Ow.put_ne _ _ hne] at hf
    obtain ⟨mk2, t2, cs2, hA2, hK⟩ := H g hg hf
    obtain ⟨rfl, hb⟩ := AllocsAt.uniq w0 (aj hA') (aj hA2)
    obtain ⟨rfl, rfl⟩ := cells_inj hb
    rw [pc, Ow.put_comm U _ _ (Ne.symm hne)]
    exact hK g' hg' (by rw [Ow.put_ne _ _ (Ne.symm hne)]; exact hf')
  · obtain ⟨z, b0, b1, x, hZ, hz, hS, u, hu, hK⟩ := h
    exact ⟨u, pj hu, z, b0, b1, x, hZ, hz, si' hS, by rw [pc]; exact hK⟩
  · obtain ⟨z, b0, b1, x, hZ, hz, hS, mk, t, cs, hA, hK⟩ := h
    refine ⟨mk, t, cs, aj hA, fun g hg hf => ?_⟩
    have hne : z ≠ g := fun e => by subst e; rw [hf] at hz; cases hz
    refine ⟨z, b0, b1, x, hZ, by rw [Ow.put_ne _ _ hne]; exact hz, si' hS, ?_⟩
    rw [pc, Ow.put_comm U _ _ (Ne.symm hne)]
    exact hK g hg (by rw [Ow.put_ne _ _ (Ne.symm hne)]; exact hf)
end
theorem EffW.fin {o : Oper} {a : Act} {U : Ow} {K : Act → Ow → Prop} {k : Kd} (hU : U.fin) (h : EffW P ops w0 U0 o a U K k) : EffW P ops w0 U0 o a U (fun a' U' => U'.fin ∧ K a' U') k := by
  cases k with
  | q => exact h.elim
  | p => obtain ⟨v, h1, h2⟩ := h; exact ⟨v, h1, hU, h2⟩
  | a => obtain ⟨mk, t, cs, h1, h2⟩ := h; exact ⟨mk, t, cs, h1, fun g h3 h4 => ⟨hU.put _ _, h2 g h3 h4⟩⟩
  | s => obtain ⟨z, b0, b1, v, h0, h1, h2, h3⟩ := h; exact ⟨z, b0, b1, v, h0, h1, h2, hU.put _ _, h3⟩

/-! Every order -/
def HeadW (P : Program) (md : Region.Mode) (ops : Array Oper) (w0 : World) (U0 : Ow) (kd : Nat → Kd) (N : Nat) (L : Array Bool → Act → Ow → Prop) : Nat → Array Bool → Act → Ow → Prop
  | 0, done, a, U => L done a U
  | f + 1, done, a, U => Region.ready md ops done ≠ [] ∧ ∀ i ∈ Region.ready md ops done, i < N ∧ ∃ o, ops[i]? = some o ∧ EffW P ops w0 U0 o a U (HeadW P md ops w0 U0 kd N L f (done.setIfInBounds i true)) (kd i)
variable {kd : Nat → Kd} {N : Nat}
theorem HeadW.any {L : Array Bool → Act → Ow → Prop} {g : Nat} {Q : Exit → Act → World → Prop} (hL : ∀ done a U W, HU w0 W U → L done a U → wpAny P md ops Q g done a W) (f : Nat) :
    ∀ (done : Array Bool) (a : Act) (U : Ow) (W : World), HU w0 W U → U.fin → U0.le U → HeadW P md ops w0 U0 kd N L f done a U → wpAny P md ops Q (f + g) done a W := by
  induction f with
  | zero => intro done a U W hw _ _ h; rw [Nat.zero_add]; exact hL _ _ _ _ hw h
  | succ f ih =>
    intro done a U W hw hF hI h
    rw [show f + 1 + g = (f + g) + 1 by omega]
    refine ⟨fun h0 => absurd h0 h.1, fun i hi => ?_⟩
    obtain ⟨_, o, ho, hE⟩ := h.2 i hi
    cases hkd : kd i with
    | q => rw [hkd] at hE; exact hE.elim
    | p =>
      rw [hkd] at hE
      obtain ⟨v, hy, hK⟩ := hE
      refine wpOp_of_qOp (C := fun w' => Below W.heap.size W w') (K := fun a' => a' = a.put o.dst v) (Below.refl _ _) (fun a' w' hw' e => by subst e; exact ih _ _ _ _ (hw.go hw') hF hI hK) ?_
      unfold qOp
      simp only [ho]
      rcases hy with ⟨h1, h2⟩ | ⟨h1, rfl⟩
      · rw [if_pos h1]
        exact ⟨v, fun w' hw' => quietUpon_mono (fun w'' h' => hw'.trans (h'.mono hw'.size)) (h2 w' ((hw.less hI).go hw')), rfl⟩
      · rw [if_neg (by rw [h1]; exact Bool.false_ne_true)]
    | a =>
      rw [hkd] at hE
      obtain ⟨mk, t, cs, ⟨h1, h2⟩, hK⟩ := hE
      unfold wpOp
      simp only [ho]
      rw [if_pos h1]
      refine .inl ?_
      unfold Oper.wp
      rw [h2, Oper.upon_value]
      exact ih _ _ _ _ (hw.alloc t cs) (hF.put _ _) (hI.put _ (hI.none hw.new)) (hK _ hw.bel.size hw.new)
    | s =>
      rw [hkd] at hE
      obtain ⟨z, b0, b1, v, hZ, hz0, ⟨h1, h2⟩, hK⟩ := hE
      have h3 := h2 U W hw hF hI hz0
      unfold wpOp
      simp only [ho]
      rw [if_pos h1]
      refine .inl ?_
      unfold Oper.wp
      generalize (execOp a.eval o).run P W = r at h3
      cases r with
      | ok n W' =>
        cases n <;> simp only [upH] at h3 <;> simp only [Oper.upon]
        case value u =>
          obtain ⟨e1, hz'⟩ := h3
          rw [e1]
          exact ih _ _ _ _ hz' (hF.put _ _) (hI.put b1 hZ) hK
        case skip =>
          obtain ⟨e1, hz'⟩ := h3
          rw [← e1]
          exact ih _ _ _ _ hz' (hF.put _ _) (hI.put b1 hZ) hK
        case enter f' args =>
          obtain ⟨e1, hc⟩ := h3
          rw [e1]
          exact hc.mono fun e w'' ⟨he, hz'⟩ => by subst he; exact ih _ _ _ _ hz' (hF.put _ _) (hI.put b1 hZ) hK
      | halt x W' => simp only [upH] at h3

theorem HeadW.first {L : Array Bool → Act → Ow → Prop} {i : Nat} {oi : Oper} (hi : ops[i]? = some oi) (hiN : i < N) (hsel : ∀ (j : Nat) (o : Oper) cs b, ops[j]? = some o → o.op ≠ .select cs b)
    (hE : edgesU md ops kd N = true) (hs : Region.sinkB md ops N = true) (hc : Region.chainB md ops N = true) (hn : N < ops.size) (hL : ∀ done a U, L done a U → ∀ j ∈ Region.ready md ops done, N ≤ j) (f : Nat) :
    ∀ (done : Array Bool) (a : Act) (U : Ow), HeadInv md ops N done → U.fin → (∀ j, j < i → done.getD j true = true) →
      (∀ j oj, ops[j]? = some oj → j ≠ i → done.getD j true = false → (∀ e ∈ oj.after, Region.binds md e = true → e.on ≠ i) → oi.apart ops oj = true) →
      i ∈ Region.ready md ops done → EffW P ops w0 U0 oi a U (HeadW P md ops w0 U0 kd N L f (done.setIfInBounds i true)) (kd i) → HeadW P md ops w0 U0 kd N L (f + 1) done a U := by
  have low : ∀ done, HeadInv md ops N done → i ∈ Region.ready md ops done → ∀ j ∈ Region.ready md ops done, j < N := fun done inv hr j hj => by
    rcases Nat.lt_or_ge j N with h | h
    · exact h
    · exact absurd hj (tail_waits hs hc hn inv _ i rfl hiN (mem_ready.1 hr).1 j h)
  have some_one : ∀ {o : Oper} {a : Act} {U : Ow} {K : Act → Ow → Prop} {k : Kd}, U.fin → EffW P ops w0 U0 o a U K k → ∃ a' U', K a' U' := by
    intro o a U K k hU h
    cases k with
    | q => exact h.elim
    | p => obtain ⟨v, _, h2⟩ := h; exact ⟨_, _, h2⟩
    | a => obtain ⟨mk, t, cs, _, h2⟩ := h; obtain ⟨g, h3, h4⟩ := hU.new w0.heap.size; exact ⟨_, _, h2 g h3 h4⟩
    | s => obtain ⟨z, b0, b1, v, _, _, _, h2⟩ := h; exact ⟨_, _, h2⟩
  induction f with
  | zero =>
    intro done a U inv hU _ _ hr H
    refine ⟨fun h => (by rw [h] at hr; cases hr), fun j hj => ⟨low done inv hr j hj, ?_⟩⟩
    rcases Nat.decEq j i with hji | hji
    · obtain ⟨a', U', hl⟩ := some_one hU H
      have := hL _ _ _ hl j (ready_mono hj hji)
      have := low done inv hr j hj
      omega
    · subst hji; exact ⟨oi, hi, H⟩
  | succ f ih =>
    intro done a U inv hU hd hfree hr H
    refine ⟨fun h => (by rw [h] at hr; cases hr), fun j hj => ⟨low done inv hr j hj, ?_⟩⟩
    rcases Nat.decEq j i with hji | hji
    · obtain ⟨hjun, oj, hoj, hall⟩ := mem_ready.1 hj
      have hun := (mem_ready.1 hr).1
      have hnot : ∀ e ∈ oj.after, Region.binds md e = true → e.on ≠ i := fun e he hb heq => by
        have h1 := hall e he hb
        rw [heq, getD_both hun] at h1
        cases h1
      have hap := hfree j oj hoj hji hjun hnot
      have back : ∀ k, (done.setIfInBounds j true).getD k true = false → done.getD k true = false := fun k hk => by
        rcases Nat.decEq j k with hjk | hjk
        · rw [getD_set_ne true hjk] at hk; exact hk
        · subst hjk; exact hjun
      have hij : i < j := by
        rcases Nat.lt_or_ge i j with h | h
        · exact h
        · have := hd j (by omega)
          rw [hjun] at this
          cases this
      have hjN := low done inv hr j hj
      have hne : needE (kd i) (kd j) = false := by
        cases hq : needE (kd i) (kd j) with
        | false => rfl
        | true => exact absurd hj (reach_waits inv (edgesU_spec hE hjN hij hq) hun)
      refine ⟨oj, hoj, ?_⟩
      have H2 : EffW P ops w0 U0 oi a U (fun a1 U1 => EffW P ops w0 U0 oj a1 U1 (HeadW P md ops w0 U0 kd N L f ((done.setIfInBounds j true).setIfInBounds i true)) (kd j)) (kd i) := H.mono fun a1 U1 h => by
        obtain ⟨_, oj', hoj', hh⟩ := h.2 j (ready_mono hj hji)
        obtain rfl : oj = oj' := Option.some.inj (hoj.symm.trans hoj')
        rw [Array.setIfInBounds_comm _ _ hji]
        exact hh
      have H3 := EffW.fin hU (EffW.comm hne (fun cs b => hsel i oi cs b hi) (fun cs b => hsel j oj cs b hoj) hap hU H2)
      refine H3.mono fun a2 U2 ⟨hf2, h2⟩ => ih _ a2 U2 (inv.set hj hjN) hf2 (fun k hk => by rw [getD_set_ne true (by omega)]; exact hd k hk) (fun k ok hk hki hun' hno => hfree k ok hk hki (back k hun') hno) (ready_mono hr (Ne.symm hji)) h2
    · subst hji; exact ⟨oi, hi, H⟩

/-- The walk in the text's order. -/
def wpW (P : Program) (ops : Array Oper) (w0 : World) (U0 : Ow) (kd : Nat → Kd) (R : Act → Ow → Prop) : Nat → List Oper → Act → Ow → Prop
  | _, [], a, U => R a U
  | k, o :: os, a, U => EffW P ops w0 U0 o a U (wpW P ops w0 U0 kd R (k + 1) os) (kd k)
theorem HeadW.lex {g : Nat} {R : Act → Ow → Prop} (hsel : Region.noSelect ops = true) (hE : edgesU md ops kd N = true) (hs : Region.sinkB md ops N = true) (hc : Region.chainB md ops N = true) (hn : N < ops.size) (l : List Oper) :
    ∀ (k : Nat) (done : Array Bool) (a : Act) (U : Ow), (∀ j, j < l.length → l[j]? = ops[k + j]?) → k + l.length = N → HeadInv md ops N done → (∀ j, j < k → done.getD j true = true) → U.fin →
      Region.lexHead md ops g l.length k done = true → wpW P ops w0 U0 kd R k l a U →
      HeadW P md ops w0 U0 kd N (fun done' a' U' => Region.seqB md ops g N done' = true ∧ R a' U') l.length done a U := by
  induction l with
  | nil =>
    intro k done a U _ hk _ _ _ hB h
    obtain rfl : k = N := by simpa using hk
    exact ⟨by simpa [Region.lexHead] using hB, h⟩
  | cons o l ih =>
    intro k done a U hl hk inv hd hU hB h
    have h0 : ops[k]? = some o := by simpa using (hl 0 (by simp)).symm
    simp only [List.length_cons] at hk hB ⊢
    rw [Region.lexHead, Bool.and_eq_true, Bool.and_eq_true] at hB
    obtain ⟨⟨hr, hf⟩, hB'⟩ := hB
    have hr' : k ∈ Region.ready md ops done := by simpa using hr
    have hd' : ∀ j, j < k + 1 → (done.setIfInBounds k true).getD j true = true := fun j hj => by
      rcases Nat.decEq k j with hkj | hkj
      · rw [getD_set_ne true hkj]; exact hd j (by omega)
      · subst hkj
        have hks : k < done.size := by rw [inv.size]; omega
        simp [hks]
    refine HeadW.first h0 (by omega) (Region.noSelect_spec hsel) hE hs hc hn (fun done' a' U' hL => seqB_ready hL.1) l.length done a U inv hU hd (Region.free_spec h0 hf) hr' ?_
    exact (EffW.fin hU h).mono fun a' U' ⟨hf', h'⟩ => ih (k + 1) _ a' U' (fun j hj => by have := hl (j + 1) (by simp; omega); simpa [Nat.add_assoc, Nat.add_comm 1 j] using this) (by omega) (inv.set hr' (by omega)) hd' hf' hB' h'

/-- **A drawn region**, walked in the text's order. -/
theorem wp_region_W {id : Nat} {Q : Exit → Act → World → Prop} {a : Act} {l : List Oper} (N : Nat) (kd : Nat → Kd) (U : Ow) {w : World} (hU : U.fin) (hok : HU w0 w U) (hI : U0.le U) (hm : P.follows .mixedOrders = true) (hB : Region.lexTailB .any l.toArray N = true) (hE : edgesU .any l.toArray kd N = true)
    (h : wpW P l.toArray w0 U0 kd (fun a' U' => ∀ W, HU w0 W U' → wpList P l.toArray Q (l.drop N) a' W) 0 (l.take N) a U) : (Code.region id l.toArray true).wp P Q a w := by
  simp only [Region.lexTailB, Bool.and_eq_true, decide_eq_true_eq] at hB
  obtain ⟨⟨⟨⟨hsel, hn⟩, hs⟩, hc⟩, hlex⟩ := hB
  have hn' : N < l.length := by simpa using hn
  have htl : (l.take N).length = N := by simp; omega
  have hdl : (l.drop N).length = l.toArray.size - N := by simp
  have start : HeadInv .any l.toArray N (Array.replicate l.toArray.size false) := by
    constructor
    · simp
    · intro j oj _ hl; rw [getD_replicate_false] at hl; cases hl
    · intro t _ ht; exact getD_in (by simpa using ht) (getD_replicate_false _ _)
  have H := HeadW.lex (P := P) (w0 := w0) (U0 := U0) (md := .any) (kd := kd) (N := N) (g := l.toArray.size - N) (R := fun a' U' => ∀ W, HU w0 W U' → wpList P l.toArray Q (l.drop N) a' W) hsel hE hs hc hn (l.take N) 0 _ a U
    (fun j hj => by rw [htl] at hj; simp [hj]) (by rw [htl]; omega) start (fun j hj => by omega) hU (by rw [htl]; exact hlex) h
  rw [htl] at H
  refine wp_region_any hm ?_
  have := HeadW.any (Q := Q) (g := l.toArray.size - N) (fun done a' U' W hW hL => by
    have := wpAny_of_seq (md := .any) (Q' := Q) (l.drop N) N done a' W (fun j => by simp [List.getElem?_drop]) (by rw [hdl]; exact hL.1) (hL.2 W hW)
    rwa [hdl] at this) _ _ _ _ _ (show HU w0 { w with drawn := w.drawn + 1 } U from ⟨hok.blk, hok.bel.drew, hok.t0⟩) hU hI H
  rwa [show N + (l.toArray.size - N) = l.toArray.size by omega] at this
end

/-! Over the list of blocks -/
def owOf : Ents → Ow
  | [] => fun _ => none
  | (g, t, cs) :: l => (owOf l).put g (t, cs)
theorem owOf_some {l : Ents} {k : Nat} {b : TypeId × List Value} (h : owOf l k = some b) : (k, b) ∈ l := by
  induction l with
  | nil => cases h
  | cons x l ih =>
    obtain ⟨g, t, cs⟩ := x
    unfold owOf Ow.put at h
    by_cases hk : k = g
    · rw [if_pos hk] at h
      injection h with h
      subst hk
      subst h
      exact .head _
    · rw [if_neg hk] at h
      exact .tail _ (ih h)
theorem owOf_mem {l : Ents} (hn : (l.map (·.1)).Nodup) {x : Nat × TypeId × List Value} (hx : x ∈ l) : owOf l x.1 = some x.2 := by
  induction l with
  | nil => cases hx
  | cons y l ih =>
    obtain ⟨g, t, cs⟩ := y
    rw [List.map_cons, List.nodup_cons] at hn
    unfold owOf Ow.put
    rcases List.mem_cons.1 hx with rfl | hx
    · rw [if_pos rfl]
    · rw [if_neg (fun e => hn.1 (by rw [← e]; exact List.mem_map.2 ⟨x, hx, rfl⟩))]
      exact ih hn.2 hx
theorem owOf_upd {l l' : Ents} {z : Nat} {T : TypeId} {cs ds : List Value} (h : Upd l z T cs ds l') (hn : (l.map (·.1)).Nodup) : owOf l' = (owOf l).put z (T, ds) := by
  induction h with
  | head =>
    rename_i z _ _ _ _
    funext k
    show Ow.put (owOf _) _ _ k = Ow.put (Ow.put (owOf _) _ _) _ _ k
    unfold Ow.put
    by_cases hk : k = z
    · rw [if_pos hk, if_pos hk]
    · rw [if_neg hk, if_neg hk, if_neg hk]
  | tail h ih =>
    rename_i z _ _ _ l1 l2 y
    obtain ⟨g, t, es⟩ := y
    rw [List.map_cons, List.nodup_cons] at hn
    have hne : z ≠ g := fun e => hn.1 (by rw [← e]; exact List.mem_map.2 ⟨_, h.mem, rfl⟩)
    show (owOf l2).put g _ = ((owOf l1).put g _).put z _
    rw [ih hn.2, Ow.put_comm _ _ _ hne]
theorem upd_of_mem {l : Ents} {z : Nat} {T : TypeId} {cs : List Value} (ds : List Value) (h : (z, T, cs) ∈ l) : ∃ l', Upd l z T cs ds l' := by
  induction l with
  | nil => cases h
  | cons x l ih =>
    rcases List.mem_cons.1 h with rfl | h
    · exact ⟨_, .head⟩
    · obtain ⟨l', hl⟩ := ih h
      exact ⟨_, .tail hl⟩
theorem Upd.keep {l l' : Ents} {z : Nat} {T : TypeId} {cs ds : List Value} (h : Upd l z T cs ds l') {x : Nat × TypeId × List Value} (hx : x ∈ l) (hne : x.1 ≠ z) : x ∈ l' := by
  induction h with
  | head =>
    rcases List.mem_cons.1 hx with rfl | hx
    · exact absurd rfl hne
    · exact .tail _ hx
  | tail h ih =>
    rcases List.mem_cons.1 hx with rfl | hx
    · exact .head _
    · exact .tail _ (ih hx hne)
theorem ents_of (U : Ow) : ∀ n, (∀ g b, U g = some b → g < n) → ∃ l : Ents, (l.map (·.1)).Nodup ∧ owOf l = U ∧ ∀ x ∈ l, x.1 < n := by
  intro n
  induction n generalizing U with
  | zero => intro h; exact ⟨[], List.Pairwise.nil, by funext k; cases hu : U k with | none => rfl | some b => exact absurd (h k b hu) (by omega), fun x hx => by cases hx⟩
  | succ n ih =>
    intro h
    obtain ⟨l, h1, h2, h3⟩ := ih (fun k => if k = n then none else U k) (fun g b hu => by
      by_cases hg : g = n
      · simp [hg] at hu
      · simp only [if_neg hg] at hu
        have := h g b hu
        omega)
    cases hu : U n with
    | none =>
      refine ⟨l, h1, ?_, fun x hx => by have := h3 x hx; omega⟩
      rw [h2]
      funext k
      by_cases hk : k = n
      · subst hk; simp [hu]
      · simp [hk]
    | some b =>
      refine ⟨(n, b) :: l, ?_, ?_, fun x hx => ?_⟩
      · rw [List.map_cons, List.nodup_cons]
        refine ⟨fun hm => ?_, h1⟩
        obtain ⟨x, hx, he⟩ := List.mem_map.1 hm
        have h4 := h3 x hx
        have h5 : x.1 = n := he
        omega
      · obtain ⟨t, cs⟩ := b
        show (owOf l).put n (t, cs) = U
        rw [h2]
        funext k
        unfold Ow.put
        by_cases hk : k = n
        · subst hk; simp [hu]
        · simp [hk]
      · rcases List.mem_cons.1 hx with rfl | hx
        · exact Nat.lt_succ_self n
        · have := h3 x hx; omega
theorem Hp.hu {w0 W : World} {l : Ents} (h : Hp w0 W l) : HU w0 W (owOf l) := ⟨fun k x hu => h.blk _ (owOf_some hu), h.bel, h.t0⟩
theorem HU.hp {w0 W : World} {l : Ents} (h : HU w0 W (owOf l)) (hn : (l.map (·.1)).Nodup) : Hp w0 W l := ⟨fun x hx => h.blk _ _ (owOf_mem hn hx), hn, h.bel, h.t0⟩

section
variable {P : Program} {ops : Array Oper} {rest : List Oper} {o : Oper} {a : Act} {w0 w : World} {l l' l0 : Ents} {Q : Exit → Act → World → Prop} {kd : Nat → Kd} {k : Nat} {R : Act → Ents → Prop}
def YieldsP0 (P : Program) (ops : Array Oper) (w0 : World) (l0 : Ents) (o : Oper) (v : Value) (a : Act) : Prop :=
  (Region.wanted o (yielded ops a.tmps) = true ∧ ∀ W, Hid (Hp w0 W l0) → keepsAt P o a W v) ∨ (Region.wanted o (yielded ops a.tmps) = false ∧ v = undef)
def upP (P : Program) (w0 : World) (m : Ents) (W : World) (v : Value) : Result Next → Prop
  | .ok (.value u) W' => u = v ∧ Hp w0 W' m
  | .ok .skip W' => v = undef ∧ Hp w0 W' m
  | .ok (.enter f args) W' => W' = W ∧ Calls P f args W (fun e W'' => e = .returned v ∧ Hp w0 W'' m)
  | _ => False
def StoresP0 (P : Program) (ops : Array Oper) (w0 : World) (l0 : Ents) (o : Oper) (a : Act) (z : Nat) (T : TypeId) (cs ds : List Value) (v : Value) : Prop :=
  Region.wanted o (yielded ops a.tmps) = true ∧ ∀ m m' W, Hid (Hp w0 W m) → (∀ x ∈ l0, x ∈ m) → Upd m z T cs ds m' → upP P w0 m' W v ((execOp a.eval o).run P W)
def wpV (P : Program) (ops : Array Oper) (w0 : World) (l0 : Ents) (kd : Nat → Kd) (R : Act → Ents → Prop) : Nat → List Oper → Act → Ents → Prop
  | _, [], a, l => R a l
  | k, o :: os, a, l =>
    (kd k = .p ∧ ∃ v, YieldsP0 P ops w0 l0 o v a ∧ wpV P ops w0 l0 kd R (k + 1) os (a.put o.dst v) l) ∨
    (kd k = .a ∧ ∃ mk t cs, AllocsAt P ops o a mk (.cells cs.toArray t (0, 0)) ∧ ∀ g, wpV P ops w0 l0 kd R (k + 1) os (a.put o.dst (mk g)) ((g, t, cs) :: l)) ∨
    (kd k = .s ∧ ∃ z T cs ds l' v, (∀ x ∈ l0, x.1 ≠ z) ∧ Upd l z T cs ds l' ∧ StoresP0 P ops w0 l0 o a z T cs ds v ∧ wpV P ops w0 l0 kd R (k + 1) os (a.put o.dst v) l')
theorem wpV_nil (h : R a l) : wpV P ops w0 l0 kd R k [] a l := h
/-- Pure. -/
theorem wpV_P {v : Value} (hp : kd k = .p) (hg : Region.wanted o (yielded ops a.tmps) = true) (hr : ∀ W, (execOp a.eval o).run P W = .ok (.value v) W) (h : wpV P ops w0 l0 kd R (k + 1) rest (a.put o.dst v) l) : wpV P ops w0 l0 kd R k (o :: rest) a l :=
  .inl ⟨hp, v, .inl ⟨hg, fun W _ => by unfold keepsAt; rw [hr W]; exact ⟨rfl, rfl⟩⟩, h⟩
/-- A call that leaves all that was there. -/
theorem wpV_C {v : Value} (hp : kd k = .p) (hg : Region.wanted o (yielded ops a.tmps) = true) (hr : ∀ W, Hid (Hp w0 W l0) → keepsAt P o a W v) (h : wpV P ops w0 l0 kd R (k + 1) rest (a.put o.dst v) l) : wpV P ops w0 l0 kd R k (o :: rest) a l :=
  .inl ⟨hp, v, .inl ⟨hg, hr⟩, h⟩
theorem wpV_load {t T : TypeId} {p : Operand} {b j n : Nat} {cs ds : List Value} (hk : kd k = .p) (ho : o.op = .load t p) (hg : Region.wanted o (yielded ops a.tmps) = true) (hT : RowT P t n) (hp : a.eval p = .pointer (some ⟨b, j, none⟩))
    (hm : (b, T, cs) ∈ l0) (hx : (cs.drop j).take n = ds) (hl : ds.length = n) (h : wpV P ops w0 l0 kd R (k + 1) rest (a.put o.dst (.agg ds.toArray)) l) : wpV P ops w0 l0 kd R k (o :: rest) a l :=
  wpV_C hk hg (fun W hW => by
    have hr := run_loadB (P := P) (t := t) (k := j) (hW.out.get hm) hT (by simpa using hx) hl
    unfold keepsAt execOp
    simp only [ho, hp, hr, Sem.run_bind, Sem.run_pure, Result.andThen_ok]
    exact ⟨rfl, rfl⟩) h
theorem wpV_load1 {t T : TypeId} {p : Operand} {b j : Nat} {cs : List Value} {v : Value} (hk : kd k = .p) (ho : o.op = .load t p) (hg : Region.wanted o (yielded ops a.tmps) = true) (hT : ∃ d, P.underlying t = some d ∧ d.isRow = false) (hp : a.eval p = .pointer (some ⟨b, j, none⟩))
    (hm : (b, T, cs) ∈ l0) (hx : cs[j]? = some v) (h : wpV P ops w0 l0 kd R (k + 1) rest (a.put o.dst v) l) : wpV P ops w0 l0 kd R k (o :: rest) a l :=
  wpV_C hk hg (fun W hW => by
    have hb := (hW.out.get hm).out
    have hr := run_loadC (P := P) (t := t) (k := j) hT hb (by simpa using hx)
    unfold keepsAt execOp
    simp only [ho, hp, hr, Sem.run_bind, Sem.run_pure, Result.andThen_ok]
    exact ⟨rfl, rfl⟩) h
theorem wpV_A {t : TypeId} {cs : List Value} (hp : kd k = .a) (hA : Allocs P ops o (.cells cs.toArray t)) (h : ∀ g, wpV P ops w0 l0 kd R (k + 1) rest (a.put o.dst (.pointer (some ⟨g, 0, none⟩))) ((g, t, cs) :: l)) : wpV P ops w0 l0 kd R k (o :: rest) a l :=
  .inr (.inl ⟨hp, fun g => .pointer (some ⟨g, 0, none⟩), t, cs, ⟨(hA a w0).1, fun W => (hA a W).2⟩, h⟩)
/-- A call that changes a known block. -/
theorem wpV_S {z : Nat} {T : TypeId} {cs : List Value} (ds : List Value) {v : Value} (hp : kd k = .s) (hg : Region.wanted o (yielded ops a.tmps) = true) (hz : ∀ x ∈ l0, x.1 ≠ z) (hu : Upd l z T cs ds l')
    (hr : ∀ m m' W, Hid (Hp w0 W m) → (∀ x ∈ l0, x ∈ m) → Upd m z T cs ds m' → upP P w0 m' W v ((execOp a.eval o).run P W)) (h : wpV P ops w0 l0 kd R (k + 1) rest (a.put o.dst v) l') : wpV P ops w0 l0 kd R k (o :: rest) a l :=
  .inr (.inr ⟨hp, z, T, cs, ds, l', v, hz, hu, ⟨hg, hr⟩, h⟩)
theorem wpW_of (n0 : (l0.map (·.1)).Nodup) {R' : Act → Ow → Prop} (os : List Oper) : ∀ (k : Nat) (a : Act) (l1 : Ents), (l1.map (·.1)).Nodup → (∀ x ∈ l0, x ∈ l1) →
    (∀ a' l2, (l2.map (·.1)).Nodup → R a' l2 → R' a' (owOf l2)) → wpV P ops w0 l0 kd R k os a l1 → wpW P ops w0 (owOf l0) kd R' k os a (owOf l1) := by
  induction os with
  | nil => intro k a l1 nd _ hR h; exact hR a l1 nd h
  | cons o os ih =>
    intro k a l1 nd sub hR h
    show EffW P ops w0 (owOf l0) o a (owOf l1) (wpW P ops w0 (owOf l0) kd R' (k + 1) os) (kd k)
    rcases h with ⟨hp, v, hy, hK⟩ | ⟨hp, mk, t, cs, hA, hK⟩ | ⟨hp, z, T, cs, ds, l2, v, hz, hu, hS, hK⟩
    · rw [hp]
      refine ⟨v, ?_, ih _ _ _ nd sub hR hK⟩
      rcases hy with ⟨y1, y2⟩ | y
      · exact .inl ⟨y1, fun W hW => y2 W (Lib.hid (hW.hp n0))⟩
      · exact .inr y
    · rw [hp]
      refine ⟨mk, t, cs, hA, fun g hg hf => ih _ _ ((g, t, cs) :: l1) ?_ (fun x hx => .tail _ (sub x hx)) hR (hK g)⟩
      rw [List.map_cons, List.nodup_cons]
      refine ⟨fun hm => ?_, nd⟩
      obtain ⟨x, hx, he⟩ := List.mem_map.1 hm
      have := owOf_mem nd hx
      rw [he, hf] at this
      cases this
    · rw [hp]
      have e := owOf_upd hu nd
      have hz0 : owOf l0 z = none := by
        cases hq : owOf l0 z with
        | none => rfl
        | some b => exact absurd rfl (hz _ (owOf_some hq))
      refine ⟨z, _, (T, ds), v, hz0, owOf_mem nd hu.mem, ⟨hS.1, fun U W hW hF hI hUz => ?_⟩, ?_⟩
      · obtain ⟨n, hn⟩ := hF
        obtain ⟨m, m1, m2, _⟩ := ents_of U n hn
        subst m2
        obtain ⟨m', hm'⟩ := upd_of_mem ds (owOf_some hUz)
        have h3 := hS.2 m m' W (Lib.hid (hW.hp m1)) (fun x hx => owOf_some (hI _ _ (owOf_mem n0 hx))) hm'
        have e' := owOf_upd hm' m1
        rw [← e']
        generalize (execOp a.eval o).run P W = r at h3
        cases r with
        | ok q W' =>
          cases q <;> simp only [upP] at h3 <;> simp only [upH]
          case value u => exact ⟨h3.1, h3.2.hu⟩
          case skip => exact ⟨h3.1, h3.2.hu⟩
          case enter f' args => exact ⟨h3.1, h3.2.mono fun e' w'' ⟨he, hz'⟩ => ⟨he, hz'.hu⟩⟩
        | halt x W' => simp only [upP] at h3
      · show wpW P ops w0 (owOf l0) kd R' (k + 1) os (a.put o.dst v) ((owOf l1).put z (T, ds))
        rw [← e]
        exact ih _ _ l2 (by rw [hu.fst]; exact nd) (fun x hx => hu.keep (sub x hx) (hz x hx)) hR hK
/-- **A drawn region with calls that change a known block**: N operations in the text's order, then the rest in its forced order. -/
theorem wp_region_V {id : Nat} {ol : List Oper} (N : Nat) (ks : List Kd) (l0 : Ents) (H : Hid (Hp w0 w l)) (sub : ∀ x ∈ l0, x ∈ l) (n0 : (l0.map (·.1)).Nodup) (hm : P.follows .mixedOrders = true) (hB : Region.lexTailB .any ol.toArray N = true) (hE : edgesU .any ol.toArray (fun k => ks.getD k .p) N = true)
    (h : wpV P ol.toArray w0 l0 (fun k => ks.getD k .p) (fun a'' l' => ∀ W, Hid (Hp w0 W l') → wpList P ol.toArray Q (ol.drop N) a'' W) 0 (ol.take N) a l) : (Code.region id ol.toArray true).wp P Q a w :=
  wp_region_W (U0 := owOf l0) N _ (owOf l) ⟨w.heap.size, fun g b hu => H.out.lt (owOf_some hu)⟩ H.out.hu (fun k x hu => owOf_mem H.out.nd (sub _ (owOf_some hu))) hm hB hE
    (wpW_of n0 _ 0 a l H.out.nd sub (fun a'' l2 nd hR W hW => hR W (Lib.hid (hW.hp nd))) h)
end
end Go.Proofs.YtolekonocbeekaaDoor

namespace Go.Proofs.YtolekonocbeekaaDoor
open Go.RowKit
set_option linter.unusedVariables false

section
variable {P : Program} {ops : Array Oper} {rest : List Oper} {o : Oper} {a a2 : Act} {w0 w : World} {l l' : Ents} {Q : Exit → Act → World → Prop}
theorem ldA (H : Hid (Hp w0 w l)) {t T : TypeId} {p : Operand} {b k n : Nat} {cs ds : List Value} (hK : wpList P ops Q rest a2 w) (ho : o.op = .load t p := by rfl) (hg : Region.wanted o (yielded ops a.tmps) = true := by first | exact wanted_none rfl | exact wanted_some rfl rfl) (hT : RowT P t n := by first | exact rRat | exact rSpan | exact rPose | exact rFrame | exact rVec | exact rTurn | exact rBox | exact rSlot | exact rWay) (hp : a.eval p = .pointer (some ⟨b, k, none⟩) := by rfl)
    (hm : (b, T, cs) ∈ l := by repeat (first | exact List.Mem.head _ | refine List.Mem.tail _ ?_ | assumption)) (hx : (cs.drop k).take n = ds := by (simp only [List.drop, List.take]; rfl)) (hl : ds.length = n := by rfl) (hn : a.put o.dst (.agg ds.toArray) = a2 := by (simp only [Act.put, List.setIfInBounds_toArray, List.set_cons_succ, List.set_cons_zero]; rfl)) : wpList P ops Q (o :: rest) a w :=
  wpList_loadH H ho hg hT hp hm hx hl (by rw [hn]; exact hK)
theorem ld1A (H : Hid (Hp w0 w l)) {t T : TypeId} {p : Operand} {b k : Nat} {cs : List Value} {v : Value} (hK : wpList P ops Q rest a2 w) (ho : o.op = .load t p := by rfl) (hg : Region.wanted o (yielded ops a.tmps) = true := by first | exact wanted_none rfl | exact wanted_some rfl rfl) (hT : ∃ d, P.underlying t = some d ∧ d.isRow = false := by first | exact kBool | exact kStr | exact kInt | exact kStm) (hp : a.eval p = .pointer (some ⟨b, k, none⟩) := by rfl)
    (hm : (b, T, cs) ∈ l := by repeat (first | exact List.Mem.head _ | refine List.Mem.tail _ ?_ | assumption)) (hx : cs[k]? = some v := by rfl) (hn : a.put o.dst v = a2 := by (simp only [Act.put, List.setIfInBounds_toArray, List.set_cons_succ, List.set_cons_zero]; rfl)) : wpList P ops Q (o :: rest) a w :=
  wpList_loadH1 H ho hg hT hp hm hx (by rw [hn]; exact hK)
theorem stA (H : Hid (Hp w0 w l)) {t T : TypeId} {p x : Operand} {b k n : Nat} {cs vs ds : List Value} (hK : ∀ W', Hid (Hp w0 W' l') → wpList P ops Q rest a W') (ho : o.op = .store t p x := by rfl) (hg : o.guard = none := by rfl) (hd : o.dst = none := by rfl) (hT : RowT P t n := by first | exact rRat | exact rSpan | exact rPose | exact rFrame | exact rVec | exact rTurn | exact rBox | exact rSlot | exact rWay) (hp : a.eval p = .pointer (some ⟨b, k, none⟩) := by rfl) (hx : a.eval x = .agg vs.toArray := by rfl)
    (hu : Upd l b T cs ds l' := by repeat (first | apply Upd.head | apply Upd.tail | assumption)) (hl : vs.length = n := by rfl) (hc : cs.take k ++ vs ++ cs.drop (k + n) = ds := by (simp only [List.drop, List.take, List.nil_append, List.cons_append]; rfl)) (hk : k + n ≤ cs.length := by exact Nat.le_of_ble_eq_true rfl) (h1 : vs.all (·.oneCell') = true := by rfl) : wpList P ops Q (o :: rest) a w :=
  wpList_storeH H ho hg hd hT hp hx hu hl hc hk h1 hK
theorem st1A (H : Hid (Hp w0 w l)) {t T : TypeId} {p x : Operand} {b k : Nat} {cs ds : List Value} {v : Value} (hK : ∀ W', Hid (Hp w0 W' l') → wpList P ops Q rest a W') (ho : o.op = .store t p x := by rfl) (hg : o.guard = none := by rfl) (hd : o.dst = none := by rfl) (hT : (P.info? t).map (·.size) = some 1 := by first | exact sBool | exact sStr | exact sInt | exact sStm) (hp : a.eval p = .pointer (some ⟨b, k, none⟩) := by rfl) (hx : a.eval x = v := by rfl)
    (hu : Upd l b T cs ds l' := by repeat (first | apply Upd.head | apply Upd.tail | assumption)) (hc : cs.set k v = ds := by (simp only [List.set_cons_succ, List.set_cons_zero]; rfl)) (hk : k < cs.length := by exact Nat.le_of_ble_eq_true rfl) (h1 : v.oneCell' = true := by rfl) (hv : v.cells = #[v] := by rfl) : wpList P ops Q (o :: rest) a w :=
  wpList_storeH1 H ho hg hd hT hp hx hu hc hk h1 hv hK
theorem bxA (H : Hid (Hp w0 w l)) {t : TypeId} {x : Operand} {d : Tmp} {v : Value} {cs : List Value} {a3 : Nat → Act} (hK : ∀ (b : Nat) W', Hid (Hp w0 W' ((b, t, cs) :: l)) → wpList P ops Q rest (a3 b) W') (ho : o.op = .box t x := by rfl) (hg : o.guard = none := by rfl) (hd : o.dst = some d := by rfl) (hx : a.eval x = v := by (go_simp; rfl)) (hc : v.cells = cs.toArray := by (simp only [Value.cells]; rfl))
    (hn : ∀ b, a.put (some d) (.pointer (some ⟨b, 0, none⟩)) = a3 b := by (intro b; simp only [Act.put, List.setIfInBounds_toArray, List.set_cons_succ, List.set_cons_zero]; rfl)) : wpList P ops Q (o :: rest) a w :=
  wpList_boxH H ho hg hd hx hc fun b W' h => by rw [hn]; exact hK b W' h
theorem alA (H : Hid (Hp w0 w l)) {t : TypeId} {d : Tmp} {z : Value} {cs : List Value} {a3 : Nat → Act} (hK : ∀ (b : Nat) W', Hid (Hp w0 W' ((b, t, cs) :: l)) → wpList P ops Q rest (a3 b) W') (ho : o.op = .alloc t := by rfl) (hg : o.guard = none := by rfl) (hd : o.dst = some d := by rfl) (hz : (P.info? t).bind (·.zero) = some z := by first | exact zRat | exact zSpan | exact zPose | exact zFrame | exact zVec | exact zTurn | exact zBox | exact zStm | exact zWay | exact zSlot) (hc : z.cells = cs.toArray := by (simp only [Value.cells]; rfl))
    (hn : ∀ b, a.put (some d) (.pointer (some ⟨b, 0, none⟩)) = a3 b := by (intro b; simp only [Act.put, List.setIfInBounds_toArray, List.set_cons_succ, List.set_cons_zero]; rfl)) : wpList P ops Q (o :: rest) a w :=
  wpList_allocH H ho hg hd hz hc fun b W' h => by rw [hn]; exact hK b W' h
theorem kldA (H : Hid (Hp w0 w l)) {R : Act → Prop} {t T : TypeId} {p : Operand} {b k n : Nat} {cs ds : List Value} (hK : wpKeep P ops w R rest a2) (ho : o.op = .load t p := by rfl) (hg : Region.wanted o (yielded ops a.tmps) = true := by first | exact wanted_none rfl | exact wanted_some rfl rfl) (hT : RowT P t n := by first | exact rRat | exact rSpan | exact rPose | exact rFrame | exact rVec | exact rTurn | exact rBox | exact rSlot | exact rWay) (hp : a.eval p = .pointer (some ⟨b, k, none⟩) := by rfl)
    (hm : (b, T, cs) ∈ l := by repeat (first | exact List.Mem.head _ | refine List.Mem.tail _ ?_ | assumption)) (hx : (cs.drop k).take n = ds := by (simp only [List.drop, List.take]; rfl)) (hl : ds.length = n := by rfl) (hn : a.put o.dst (.agg ds.toArray) = a2 := by (simp only [Act.put, List.setIfInBounds_toArray, List.set_cons_succ, List.set_cons_zero]; rfl)) : wpKeep P ops w R (o :: rest) a :=
  wpK_loadH H ho hg hT hp hm hx hl (by rw [hn]; exact hK)
theorem kld1A (H : Hid (Hp w0 w l)) {R : Act → Prop} {t T : TypeId} {p : Operand} {b k : Nat} {cs : List Value} {v : Value} (hK : wpKeep P ops w R rest a2) (ho : o.op = .load t p := by rfl) (hg : Region.wanted o (yielded ops a.tmps) = true := by first | exact wanted_none rfl | exact wanted_some rfl rfl) (hT : ∃ d, P.underlying t = some d ∧ d.isRow = false := by first | exact kBool | exact kStr | exact kInt | exact kStm) (hp : a.eval p = .pointer (some ⟨b, k, none⟩) := by rfl)
    (hm : (b, T, cs) ∈ l := by repeat (first | exact List.Mem.head _ | refine List.Mem.tail _ ?_ | assumption)) (hx : cs[k]? = some v := by rfl) (hn : a.put o.dst v = a2 := by (simp only [Act.put, List.setIfInBounds_toArray, List.set_cons_succ, List.set_cons_zero]; rfl)) : wpKeep P ops w R (o :: rest) a :=
  wpK_loadH1 H ho hg hT hp hm hx (by rw [hn]; exact hK)
theorem kskA {R : Act → Prop} {i : Nat} {b : Bool} (hK : wpKeep P ops w R rest a2) (h : o.guard = some (i, b) := by rfl) (hy : yielded ops a.tmps i = some (!b) := by rfl) (hn : a.put o.dst undef = a2 := by (simp only [Act.put, List.setIfInBounds_toArray, List.set_cons_succ, List.set_cons_zero]; rfl)) : wpKeep P ops w R (o :: rest) a :=
  wpK_skip h hy (by rw [hn]; exact hK)
end
end Go.Proofs.YtolekonocbeekaaDoor

namespace Go.Proofs.YtolekonocbeekaaDoor
open Go.RowKit
set_option linter.unusedVariables false
set_option maxRecDepth 100000

set_option maxHeartbeats 4000000 in
theorem Has_any (a1 b1 a2 b2 a3 b3 r s t : Option Rat) (half g1 g2 g3 : Bool) (w : World) (ha1 : SmO a1) (hb1 : SmO b1) (ha2 : SmO a2) (hb2 : SmO b2) (ha3 : SmO a3) (hb3 : SmO b3) (hr : SmO r) (hs : SmO s) (ht : SmO t) (G1 : Hid (hasS a1 b1 r = g1)) (G2 : Hid (hasS a2 b2 s = g2)) (G3 : Hid (hasS a3 b3 t = g3)) (hT : Tb w) :
    Calls Tryd.prog 14 #[.agg #[.bool (sgO a1), .string (nuO a1), .string (deO a1), .bool (sgO b1), .string (nuO b1), .string (deO b1), .bool (sgO a2), .string (nuO a2), .string (deO a2), .bool (sgO b2), .string (nuO b2), .string (deO b2), .bool (sgO a3), .string (nuO a3), .string (deO a3), .bool (sgO b3), .string (nuO b3), .string (deO b3)], .agg #[.bool (sgO r), .string (nuO r), .string (deO r), .bool (sgO s), .string (nuO s), .string (deO s), .bool half, .bool (sgO t), .string (nuO t), .string (deO t)]] w fun e w' => e = .returned (.bool (!half && (g1 && (g2 && g3)))) ∧ Below w.heap.size w w' := by
  have H := Lib.hid (Hp.start hT)
  clear hT
  have Ha1 := Lib.hid ha1
  have Hb1 := Lib.hid hb1
  have Ha2 := Lib.hid ha2
  have Hb2 := Lib.hid hb2
  have Ha3 := Lib.hid ha3
  have Hb3 := Lib.hid hb3
  have Hr := Lib.hid hr
  have Hs := Lib.hid hs
  have Ht := Lib.hid ht
  clear ha1 hb1 ha2 hb2 ha3 hb3 hr hs ht
  cases half with
  | true =>
    go_enter Tryd.func14, Tryd.ntmps14
    go_wp2_with (first
        | go_skip
        | ((with_reducible refine isLoad ?_); refine ld1A H ?_)
        | ((with_reducible refine isBox ?_); refine bxA H ?_; clear H; intro _ _ H))
    go_ret
    exact ⟨rfl, H.out.bel⟩
  | false =>
    cases g1 with
    | false =>
      go_enter Tryd.func14, Tryd.ntmps14
      go_wp2_with (first
          | ((with_reducible refine isLoad ?_); refine ldA H ?_)
          | ((with_reducible refine isLoad ?_); refine ld1A H ?_)
          | ((with_reducible refine isBox ?_); refine bxA H ?_; clear H; intro _ _ H))
      refine (spanHas_any a1 b1 r false _ Ha1.out Hb1.out Hr.out G1 H.out.tb).mono ?_
      rintro _ _ ⟨rfl, hb⟩
      replace H := Lib.hid (H.out.go hb)
      clear hb
      go_wp2_with (first
          | go_skip)
      go_ret
      exact ⟨rfl, H.out.bel⟩
    | true =>
      cases g2 with
      | false =>
        go_enter Tryd.func14, Tryd.ntmps14
        go_wp2_with (first
            | ((with_reducible refine isLoad ?_); refine ldA H ?_)
            | ((with_reducible refine isLoad ?_); refine ld1A H ?_)
            | ((with_reducible refine isBox ?_); refine bxA H ?_; clear H; intro _ _ H))
        refine (spanHas_any a1 b1 r true _ Ha1.out Hb1.out Hr.out G1 H.out.tb).mono ?_
        rintro _ _ ⟨rfl, hb⟩
        replace H := Lib.hid (H.out.go hb)
        clear hb
        go_wp2_with (first
            | ((with_reducible refine isLoad ?_); refine ldA H ?_))
        refine (spanHas_any a2 b2 s false _ Ha2.out Hb2.out Hs.out G2 H.out.tb).mono ?_
        rintro _ _ ⟨rfl, hb⟩
        replace H := Lib.hid (H.out.go hb)
        clear hb
        go_wp2_with (first
            | go_skip)
        go_ret
        exact ⟨rfl, H.out.bel⟩
      | true =>
        go_enter Tryd.func14, Tryd.ntmps14
        go_wp2_with (first
            | ((with_reducible refine isLoad ?_); refine ldA H ?_)
            | ((with_reducible refine isLoad ?_); refine ld1A H ?_)
            | ((with_reducible refine isBox ?_); refine bxA H ?_; clear H; intro _ _ H))
        refine (spanHas_any a1 b1 r true _ Ha1.out Hb1.out Hr.out G1 H.out.tb).mono ?_
        rintro _ _ ⟨rfl, hb⟩
        replace H := Lib.hid (H.out.go hb)
        clear hb
        go_wp2_with (first
            | ((with_reducible refine isLoad ?_); refine ldA H ?_))
        refine (spanHas_any a2 b2 s true _ Ha2.out Hb2.out Hs.out G2 H.out.tb).mono ?_
        rintro _ _ ⟨rfl, hb⟩
        replace H := Lib.hid (H.out.go hb)
        clear hb
        go_wp2_with (first
            | ((with_reducible refine isLoad ?_); refine ldA H ?_))
        refine (spanHas_any a3 b3 t g3 _ Ha3.out Hb3.out Ht.out G3 H.out.tb).mono ?_
        rintro _ _ ⟨rfl, hb⟩
        replace H := Lib.hid (H.out.go hb)
        clear hb
        go_wp2_with (first
            | go_skip)
        go_ret
        exact ⟨rfl, H.out.bel⟩
end Go.Proofs.YtolekonocbeekaaDoor

namespace Go.Proofs.YtolekonocbeekaaDoor
open Go.RowKit
set_option linter.unusedVariables false
set_option maxRecDepth 100000

set_option maxHeartbeats 4000000 in
theorem seeLong_any (a b : Option Rat) (p q v : Rat) (w : World) (ha : SmO a) (hb : SmO b) (hp : Hid (nmS a b = (p, q))) (hv : Hid (q - p = v)) (hT : Tb w) :
    Calls Tryd.prog 58 #[.agg #[.bool (sgO a), .string (nuO a), .string (deO a), .bool (sgO b), .string (nuO b), .string (deO b)]] w fun e w' => e = .returned (.agg #[.bool (sgO (some v)), .string (nuO (some v)), .string (deO (some v))]) ∧ Below w.heap.size w w' := by
  have H := Lib.hid (Hp.start hT)
  clear hT
  have SP : Hid (SmO (some p)) := by have := (nmS_sm ha hb).1; rw [hp.out] at this; exact this
  have SQ : Hid (SmO (some q)) := by have := (nmS_sm ha hb).2; rw [hp.out] at this; exact this
  have Ha := Lib.hid ha
  have Hb := Lib.hid hb
  clear ha hb
  go_enter Tryd.func58, Tryd.ntmps58
  go_wp2_with (first
      | ((with_reducible refine isLoad ?_); refine ldA H ?_)
      | ((with_reducible refine isBox ?_); refine bxA H ?_; clear H; intro _ _ H)
      | ((with_reducible refine isAlloc ?_); refine alA H ?_; clear H; intro _ _ H))
  refine (norm_any a b p q _ Ha.out Hb.out hp H.out.tb).mono ?_
  rintro _ _ ⟨rfl, hb⟩
  replace H := Lib.hid (H.out.go hb)
  clear hb
  go_wp2_with (first
      | ((with_reducible refine isLoad ?_); refine ldA H ?_)
      | ((with_reducible refine isStore ?_); refine stA H ?_; clear H; intro _ H))
  refine (RSub_any (some q) (some p) v _ SQ.out SP.out hv H.out.tb).mono ?_
  rintro _ _ ⟨rfl, hb⟩
  replace H := Lib.hid (H.out.go hb)
  clear hb
  go_wp2_with (first
      | ((with_reducible refine isStore ?_); refine stA H ?_; clear H; intro _ H))
  exact bodyPost_ret (results_H H Tryd.results58 (by (first | exact rRat | exact rSpan | exact rPose | exact rFrame | exact rVec | exact rTurn | exact rBox)) rfl (by (repeat (first | exact List.Mem.head _ | refine List.Mem.tail _ ?_ | assumption))) (by rfl)) rfl ⟨rfl, H.out.bel⟩
end Go.Proofs.YtolekonocbeekaaDoor

namespace Go.Proofs.YtolekonocbeekaaDoor
open Go.RowKit
set_option linter.unusedVariables false
set_option maxRecDepth 100000

set_option maxHeartbeats 4000000 in
theorem meet_any (a b c d : Option Rat) (p q r s u v : Rat) (g : Bool) (w : World) (ha : SmO a) (hb : SmO b) (hc : SmO c) (hd : SmO d) (HPQ : Hid (nmS a b = (p, q))) (HRS : Hid (nmS c d = (r, s))) (HU : Hid ((if valO (some r) ≤ valO (some p) then valO (some p) else valO (some r)) = u)) (HV : Hid ((if valO (some q) ≤ valO (some s) then valO (some q) else valO (some s)) = v)) (hg : Hid (decide (u ≤ v) = g)) (hT : Tb w) :
    Calls Tryd.prog 47 #[.agg #[.bool (sgO a), .string (nuO a), .string (deO a), .bool (sgO b), .string (nuO b), .string (deO b)], .agg #[.bool (sgO c), .string (nuO c), .string (deO c), .bool (sgO d), .string (nuO d), .string (deO d)]] w fun e w' => e = .returned (.tuple #[.agg #[.bool (sgO (some u)), .string (nuO (some u)), .string (deO (some u)), .bool (sgO (some v)), .string (nuO (some v)), .string (deO (some v))], .bool g]) ∧ Below w.heap.size w w' := by
  have H := Lib.hid (Hp.start hT)
  clear hT
  have SP : Hid (SmO (some p)) := by have := (nmS_sm ha hb).1; rw [HPQ.out] at this; exact this
  have SQ : Hid (SmO (some q)) := by have := (nmS_sm ha hb).2; rw [HPQ.out] at this; exact this
  have SR : Hid (SmO (some r)) := by have := (nmS_sm hc hd).1; rw [HRS.out] at this; exact this
  have SS : Hid (SmO (some s)) := by have := (nmS_sm hc hd).2; rw [HRS.out] at this; exact this
  have HA := Lib.hid ha
  have HB := Lib.hid hb
  have HC := Lib.hid hc
  have HD := Lib.hid hd
  have SU : Hid (SmO (some u)) := by
    show Sm u
    rw [← HU.out]
    split
    · exact SP.out
    · exact SR.out
  have SV : Hid (SmO (some v)) := by
    show Sm v
    rw [← HV.out]
    split
    · exact SQ.out
    · exact SS.out
  obtain ⟨k, hk⟩ : ∃ k, cmpQ u v = k := ⟨_, rfl⟩
  have HK : Hid (cmpQ (valO (some u)) (valO (some v)) = k) := hk
  have HG : Hid (decide (k ≤ 0) = g) := by
    unfold Hid
    rw [← hg.out, ← hk]
    exact decide_eq_decide.2 cmpQ_le
  clear ha hb hc hd hg hk
  go_enter Tryd.func47, Tryd.ntmps47
  go_wp2_with (first
      | ((with_reducible refine isBox ?_); refine bxA H ?_; clear H; intro _ _ H)
      | ((with_reducible refine isAlloc ?_); refine alA H ?_; clear H; intro _ _ H))
  refine wp_region_T 4 H (by kernel_rfl) (by kernel_rfl) ?_
  simp only [List.take_succ_cons, List.take_zero, List.drop_succ_cons, List.drop_zero]
  repeat (first
      | ((with_reducible refine kLoad ?_); refine kldA H ?_))
  refine wpK_step (fun K hK => ?_)
  go_simp
  apply Exists.intro
  refine ⟨fun sx => ?_, hK _ ?_⟩
  · go_at_call 61
    exact norm_any a b p q _ HA.out HB.out HPQ (H.out.tbx sx)
  clear hK K
  repeat (first
      | ((with_reducible refine kLoad ?_); refine kldA H ?_))
  refine wpK_step (fun K hK => ?_)
  go_simp
  apply Exists.intro
  refine ⟨fun sx => ?_, hK _ ?_⟩
  · go_at_call 61
    exact norm_any c d r s _ HC.out HD.out HRS (H.out.tbx sx)
  clear hK K
  refine wpKeep_nil ?_
  clear H
  intro _ H
  go_wp2_with (first
      | ((with_reducible refine isStore ?_); refine stA H ?_; clear H; intro _ H))
  refine wp_region_F1 11 H (by kernel_rfl) (by kernel_rfl) rfl (by simp [Allocs, go_sem]; intro _ _; rfl) ?_
  simp only [List.take_succ_cons, List.take_zero, List.drop_succ_cons, List.drop_zero]
  repeat (first
      | ((with_reducible refine kLoad ?_); refine kldA H ?_)
      | ((fail_if_success (with_reducible refine kCall ?_)); (with_reducible refine kCons ?_); refine wpK_step (fun K hK => ?_); go_simp; refine hK _ ?_; clear hK K))
  refine wpK_step (fun K hK => ?_)
  go_simp
  apply Exists.intro
  refine ⟨fun sx => ?_, hK _ ?_⟩
  · go_at_call 57
    exact RMax_any (some p) (some r) u _ SP.out SR.out HU (H.out.tbx sx)
  clear hK K
  repeat (first
      | ((with_reducible refine kLoad ?_); refine kldA H ?_)
      | ((fail_if_success (with_reducible refine kCall ?_)); (with_reducible refine kCons ?_); refine wpK_step (fun K hK => ?_); go_simp; refine hK _ ?_; clear hK K))
  refine wpK_step (fun K hK => ?_)
  go_simp
  apply Exists.intro
  refine ⟨fun sx => ?_, hK _ ?_⟩
  · go_at_call 65
    exact RMin_any (some q) (some s) v _ SQ.out SS.out HV (H.out.tbx sx)
  clear hK K
  repeat (first
      | ((fail_if_success (with_reducible refine kCall ?_)); (with_reducible refine kCons ?_); refine wpK_step (fun K hK => ?_); go_simp; refine hK _ ?_; clear hK K))
  refine wpKeep_nil ?_
  clear H
  intro _ _ H
  (simp only [Act.put, List.setIfInBounds_toArray, List.set_cons_succ, List.set_cons_zero])
  go_wp2_with (first
      | ((with_reducible refine isStore ?_); refine stA H ?_; clear H; intro _ H))
  refine wp_region_P (vs := [.bool (sgO (some u)), .string (nuO (some u)), .string (deO (some u)), .bool (sgO (some v)), .string (nuO (some v)), .string (deO (some v))]) 7 H (.tail .head) rfl (by kernel_rfl) (by kernel_rfl) rfl ?_
  simp only [List.take_succ_cons, List.take_zero, List.drop_succ_cons, List.drop_zero]
  repeat (first
      | ((with_reducible refine kzLoad ?_); refine wpKZ_loadH H rfl (by (first | exact wanted_none rfl | exact wanted_some rfl rfl)) (by (first | exact rRat | exact rSpan | exact rPose | exact rFrame | exact rVec | exact rTurn | exact rBox)) (by rfl) (by (repeat (first | exact List.Mem.head _ | refine List.Mem.tail _ ?_ | assumption))) (by (have h := H.out.nd; simp only [List.map_cons, List.map_nil, List.nodup_cons, List.mem_cons, List.not_mem_nil, or_false, not_or] at h; omega)) (by (simp only [List.drop, List.take]); rfl) (by rfl) ?_; (simp only [Act.put, List.setIfInBounds_toArray, List.set_cons_succ, List.set_cons_zero]))
      | ((fail_if_success (with_reducible refine kzCall ?_)); (with_reducible refine kzCons ?_); refine wpKZ_step (fun K hK => ?_); go_simp; refine hK _ ?_; clear hK K))
  refine wpKZ_step (fun K hK => ?_)
  go_simp
  apply Exists.intro
  refine ⟨fun sx => ?_, hK _ ?_⟩
  · go_at_call 23
    exact RCmp_any (some u) (some v) k _ SU.out SV.out HK (H.out.tbz (by first | exact (H.out.blk _ (List.Mem.head _)).1 | exact (H.out.blk _ (List.Mem.tail _ (List.Mem.head _))).1 | exact (H.out.blk _ (List.Mem.tail _ (List.Mem.tail _ (List.Mem.head _)))).1 | exact (H.out.blk _ (List.Mem.tail _ (List.Mem.tail _ (List.Mem.tail _ (List.Mem.head _))))).1) sx)
  clear hK K
  repeat (first
      | ((fail_if_success (with_reducible refine kzCall ?_)); (with_reducible refine kzCons ?_); refine wpKZ_step (fun K hK => ?_); go_simp; refine hK _ ?_; clear hK K))
  refine wpKeepZ_nil ⟨⟨⟨_, _, _, rfl, by (first | exact rRat | exact rSpan | exact rPose | exact rFrame | exact rVec | exact rTurn | exact rBox), rfl, rfl⟩, rfl, rfl, rfl, rfl⟩, ?_⟩
  clear H
  intro _ H
  go_wp2_with (first
      | go_skip)
  exact bodyPost_ret (results_Hv H Tryd.results47 (by (first | exact rRat | exact rSpan | exact rPose | exact rFrame | exact rVec | exact rTurn | exact rBox)) rfl (by (repeat (first | exact List.Mem.head _ | refine List.Mem.tail _ ?_ | assumption))) (by rfl) (by rfl)) rfl ⟨by simp only [HG.out]; rfl, H.out.bel⟩
end Go.Proofs.YtolekonocbeekaaDoor

namespace Go.Proofs.YtolekonocbeekaaDoor
open Go.RowKit
set_option linter.unusedVariables false
set_option maxRecDepth 100000

set_option maxHeartbeats 4000000 in
theorem seeOf_any (r s t : Option Rat) (x y z : Rat) (w : World) (hr : SmO r) (hs : SmO s) (ht : SmO t) (hx : Hid (valO r = x)) (hy : Hid (valO s = y)) (hz : Hid (valO t = z)) (hT : Tb w) :
    Calls Tryd.prog 48 #[.agg #[.bool (sgO r), .string (nuO r), .string (deO r), .bool (sgO s), .string (nuO s), .string (deO s), .bool false, .bool (sgO t), .string (nuO t), .string (deO t)]] w fun e w' => e = .returned (.tuple #[.agg #[.bool (sgO (some x)), .string (nuO (some x)), .string (deO (some x)), .bool (sgO (some x)), .string (nuO (some x)), .string (deO (some x)), .bool (sgO (some y)), .string (nuO (some y)), .string (deO (some y)), .bool (sgO (some y)), .string (nuO (some y)), .string (deO (some y)), .bool (sgO (some z)), .string (nuO (some z)), .string (deO (some z)), .bool (sgO (some z)), .string (nuO (some z)), .string (deO (some z))], .int .i64 0]) ∧ Below w.heap.size w w' := by
  have H := Lib.hid (Hp.start hT)
  clear hT
  have Hr := Lib.hid hr
  have Hs := Lib.hid hs
  have Ht := Lib.hid ht
  clear hr hs ht
  go_enter Tryd.func48, Tryd.ntmps48
  go_wp2_with (first
      | ((with_reducible refine isLoad ?_); refine ld1A H ?_)
      | ((with_reducible refine isBox ?_); refine bxA H ?_; clear H; intro _ _ H)
      | ((with_reducible refine isAlloc ?_); refine alA H ?_; clear H; intro _ _ H))
  refine wp_region_T 13 H (by kernel_rfl) (by kernel_rfl) ?_
  simp only [List.take_succ_cons, List.take_zero, List.drop_succ_cons, List.drop_zero]
  repeat (first
      | ((with_reducible refine kLoad ?_); refine kldA H ?_)
      | ((fail_if_success (with_reducible refine kCall ?_)); (with_reducible refine kCons ?_); refine wpK_step (fun K hK => ?_); go_simp; refine hK _ ?_; clear hK K))
  refine wpK_step (fun K hK => ?_)
  go_simp
  apply Exists.intro
  refine ⟨fun sx => ?_, hK _ ?_⟩
  · go_at_call 68
    exact spanOf_any r x _ Hr.out hx (H.out.tbx sx)
  clear hK K
  repeat (first
      | ((with_reducible refine kLoad ?_); refine kldA H ?_)
      | ((fail_if_success (with_reducible refine kCall ?_)); (with_reducible refine kCons ?_); refine wpK_step (fun K hK => ?_); go_simp; refine hK _ ?_; clear hK K))
  refine wpK_step (fun K hK => ?_)
  go_simp
  apply Exists.intro
  refine ⟨fun sx => ?_, hK _ ?_⟩
  · go_at_call 68
    exact spanOf_any s y _ Hs.out hy (H.out.tbx sx)
  clear hK K
  repeat (first
      | ((with_reducible refine kLoad ?_); refine kldA H ?_)
      | ((fail_if_success (with_reducible refine kCall ?_)); (with_reducible refine kCons ?_); refine wpK_step (fun K hK => ?_); go_simp; refine hK _ ?_; clear hK K))
  refine wpK_step (fun K hK => ?_)
  go_simp
  apply Exists.intro
  refine ⟨fun sx => ?_, hK _ ?_⟩
  · go_at_call 68
    exact spanOf_any t z _ Ht.out hz (H.out.tbx sx)
  clear hK K
  repeat (first
      | ((fail_if_success (with_reducible refine kCall ?_)); (with_reducible refine kCons ?_); refine wpK_step (fun K hK => ?_); go_simp; refine hK _ ?_; clear hK K))
  refine wpKeep_nil ?_
  clear H
  intro _ H
  go_wp2_with (first
      | ((with_reducible refine isStore ?_); refine stA H ?_; clear H; intro _ H))
  exact bodyPost_ret (results_Hv H Tryd.results48 (by (first | exact rRat | exact rSpan | exact rPose | exact rFrame | exact rVec | exact rTurn | exact rBox)) rfl (by (repeat (first | exact List.Mem.head _ | refine List.Mem.tail _ ?_ | assumption))) (by rfl) (by rfl)) rfl ⟨rfl, H.out.bel⟩
end Go.Proofs.YtolekonocbeekaaDoor

namespace Go.Proofs.YtolekonocbeekaaDoor
open Go.RowKit
set_option linter.unusedVariables false
set_option maxRecDepth 100000

set_option maxHeartbeats 4000000 in
theorem within_any (a b c d : Option Rat) (g : Bool) (w : World) (ha : SmO a) (hb : SmO b) (hc : SmO c) (hd : SmO d) (hg : Hid (inS a b c d = g)) (hT : Tb w) :
    Calls Tryd.prog 50 #[.agg #[.bool (sgO a), .string (nuO a), .string (deO a), .bool (sgO b), .string (nuO b), .string (deO b)], .agg #[.bool (sgO c), .string (nuO c), .string (deO c), .bool (sgO d), .string (nuO d), .string (deO d)]] w fun e w' => e = .returned (.bool g) ∧ Below w.heap.size w w' := by
  have H := Lib.hid (Hp.start hT)
  clear hT
  obtain ⟨⟨p, q⟩, hpq⟩ : ∃ z, nmS a b = z := ⟨_, rfl⟩
  obtain ⟨⟨r, s⟩, hrs⟩ : ∃ z, nmS c d = z := ⟨_, rfl⟩
  have HPQ := Lib.hid hpq
  have HRS := Lib.hid hrs
  have SP : Hid (SmO (some p)) := by have := (nmS_sm ha hb).1; rw [hpq] at this; exact this
  have SQ : Hid (SmO (some q)) := by have := (nmS_sm ha hb).2; rw [hpq] at this; exact this
  have SR : Hid (SmO (some r)) := by have := (nmS_sm hc hd).1; rw [hrs] at this; exact this
  have SS : Hid (SmO (some s)) := by have := (nmS_sm hc hd).2; rw [hrs] at this; exact this
  have HA := Lib.hid ha
  have HB := Lib.hid hb
  have HC := Lib.hid hc
  have HD := Lib.hid hd
  obtain ⟨k, hk⟩ : ∃ k, cmpQ r p = k := ⟨_, rfl⟩
  obtain ⟨m, hm⟩ : ∃ m, cmpQ q s = m := ⟨_, rfl⟩
  have HK : Hid (cmpQ (valO (some r)) (valO (some p)) = k) := hk
  have HM : Hid (cmpQ (valO (some q)) (valO (some s)) = m) := hm
  have hg2 : decide (k ≤ 0 ∧ m ≤ 0) = g := by
    rw [← hg.out, ← hk, ← hm]
    unfold inS
    rw [hpq, hrs]
    exact decide_eq_decide.2 (and_congr cmpQ_le cmpQ_le)
  clear ha hb hc hd hg hk hm hpq hrs
  by_cases hk0 : k ≤ 0
  · have HG : Hid (decide (m ≤ 0) = g) := by unfold Hid; rw [← hg2]; simp [hk0]
    clear hg2
    go_enter Tryd.func50, Tryd.ntmps50
    go_wp2_with (first
        | ((with_reducible refine isBox ?_); refine bxA H ?_; clear H; intro _ _ H))
    refine wp_region_T 4 H (by kernel_rfl) (by kernel_rfl) ?_
    simp only [List.take_succ_cons, List.take_zero, List.drop_succ_cons, List.drop_zero]
    repeat (first
        | ((with_reducible refine kLoad ?_); refine kldA H ?_))
    refine wpK_step (fun K hK => ?_)
    go_simp
    apply Exists.intro
    refine ⟨fun sx => ?_, hK _ ?_⟩
    · go_at_call 61
      exact norm_any a b p q _ HA.out HB.out HPQ (H.out.tbx sx)
    clear hK K
    repeat (first
        | ((with_reducible refine kLoad ?_); refine kldA H ?_))
    refine wpK_step (fun K hK => ?_)
    go_simp
    apply Exists.intro
    refine ⟨fun sx => ?_, hK _ ?_⟩
    · go_at_call 61
      exact norm_any c d r s _ HC.out HD.out HRS (H.out.tbx sx)
    clear hK K
    refine wpKeep_nil ?_
    clear H
    intro _ H
    go_wp2_with (first
        | ((with_reducible refine isLoad ?_); refine ldA H ?_)
        | ((with_reducible refine isStore ?_); refine stA H ?_; clear H; intro _ H))
    refine (RCmp_any (some r) (some p) k _ SR.out SP.out HK H.out.tb).mono ?_
    rintro _ _ ⟨rfl, hb⟩
    replace H := Lib.hid (H.out.go hb)
    clear hb
    go_wp2_with (first
        | ((with_reducible refine isLoad ?_); refine ldA H ?_))
    refine (RCmp_any (some q) (some s) m _ SQ.out SS.out HM H.out.tb).mono ?_
    rintro _ _ ⟨rfl, hb⟩
    replace H := Lib.hid (H.out.go hb)
    clear hb
    go_wp2_with (first
        | go_skip)
    go_ret
    exact ⟨ret_bool HG.out, H.out.bel⟩
  · have HG : Hid (false = g) := by unfold Hid; rw [← hg2]; simp [hk0]
    have hk1 : decide (k ≤ 0) = false := decide_eq_false hk0
    clear hg2
    go_enter Tryd.func50, Tryd.ntmps50
    go_wp2_with (first
        | ((with_reducible refine isBox ?_); refine bxA H ?_; clear H; intro _ _ H))
    refine wp_region_T 4 H (by kernel_rfl) (by kernel_rfl) ?_
    simp only [List.take_succ_cons, List.take_zero, List.drop_succ_cons, List.drop_zero]
    repeat (first
        | ((with_reducible refine kLoad ?_); refine kldA H ?_))
    refine wpK_step (fun K hK => ?_)
    go_simp
    apply Exists.intro
    refine ⟨fun sx => ?_, hK _ ?_⟩
    · go_at_call 61
      exact norm_any a b p q _ HA.out HB.out HPQ (H.out.tbx sx)
    clear hK K
    repeat (first
        | ((with_reducible refine kLoad ?_); refine kldA H ?_))
    refine wpK_step (fun K hK => ?_)
    go_simp
    apply Exists.intro
    refine ⟨fun sx => ?_, hK _ ?_⟩
    · go_at_call 61
      exact norm_any c d r s _ HC.out HD.out HRS (H.out.tbx sx)
    clear hK K
    refine wpKeep_nil ?_
    clear H
    intro _ H
    go_wp2_with (first
        | ((with_reducible refine isLoad ?_); refine ldA H ?_)
        | ((with_reducible refine isStore ?_); refine stA H ?_; clear H; intro _ H))
    refine (RCmp_any (some r) (some p) k _ SR.out SP.out HK H.out.tb).mono ?_
    rintro _ _ ⟨rfl, hb⟩
    replace H := Lib.hid (H.out.go hb)
    clear hb
    go_wp2_with (first
        | go_skip)
    go_ret
    exact ⟨ret_bool HG.out, H.out.bel⟩
end Go.Proofs.YtolekonocbeekaaDoor

namespace Go.Proofs.YtolekonocbeekaaDoor
open Go.RowKit
set_option linter.unusedVariables false
set_option maxRecDepth 100000

set_option maxHeartbeats 4000000 in
theorem Inside_any (a1 b1 a2 b2 a3 b3 c1 d1 c2 d2 c3 d3 : Option Rat) (g1 g2 g3 : Bool) (w : World) (ha1 : SmO a1) (hb1 : SmO b1) (ha2 : SmO a2) (hb2 : SmO b2) (ha3 : SmO a3) (hb3 : SmO b3) (hc1 : SmO c1) (hd1 : SmO d1) (hc2 : SmO c2) (hd2 : SmO d2) (hc3 : SmO c3) (hd3 : SmO d3) (G1 : Hid (inS a1 b1 c1 d1 = g1)) (G2 : Hid (inS a2 b2 c2 d2 = g2)) (G3 : Hid (inS a3 b3 c3 d3 = g3)) (hT : Tb w) :
    Calls Tryd.prog 15 #[.agg #[.bool (sgO a1), .string (nuO a1), .string (deO a1), .bool (sgO b1), .string (nuO b1), .string (deO b1), .bool (sgO a2), .string (nuO a2), .string (deO a2), .bool (sgO b2), .string (nuO b2), .string (deO b2), .bool (sgO a3), .string (nuO a3), .string (deO a3), .bool (sgO b3), .string (nuO b3), .string (deO b3)], .agg #[.bool (sgO c1), .string (nuO c1), .string (deO c1), .bool (sgO d1), .string (nuO d1), .string (deO d1), .bool (sgO c2), .string (nuO c2), .string (deO c2), .bool (sgO d2), .string (nuO d2), .string (deO d2), .bool (sgO c3), .string (nuO c3), .string (deO c3), .bool (sgO d3), .string (nuO d3), .string (deO d3)]] w fun e w' => e = .returned (.bool (g1 && (g2 && g3))) ∧ Below w.heap.size w w' := by
  have H := Lib.hid (Hp.start hT)
  clear hT
  have Ha1 := Lib.hid ha1
  have Hb1 := Lib.hid hb1
  have Ha2 := Lib.hid ha2
  have Hb2 := Lib.hid hb2
  have Ha3 := Lib.hid ha3
  have Hb3 := Lib.hid hb3
  have Hc1 := Lib.hid hc1
  have Hd1 := Lib.hid hd1
  have Hc2 := Lib.hid hc2
  have Hd2 := Lib.hid hd2
  have Hc3 := Lib.hid hc3
  have Hd3 := Lib.hid hd3
  clear ha1 hb1 ha2 hb2 ha3 hb3 hc1 hd1 hc2 hd2 hc3 hd3
  cases g1 with
  | false =>
    go_enter Tryd.func15, Tryd.ntmps15
    go_wp2_with (first
        | ((with_reducible refine isLoad ?_); refine ldA H ?_)
        | ((with_reducible refine isBox ?_); refine bxA H ?_; clear H; intro _ _ H))
    refine (within_any a1 b1 c1 d1 false _ Ha1.out Hb1.out Hc1.out Hd1.out G1 H.out.tb).mono ?_
    rintro _ _ ⟨rfl, hb⟩
    replace H := Lib.hid (H.out.go hb)
    clear hb
    go_wp2_with (first
        | go_skip)
    go_ret
    exact ⟨rfl, H.out.bel⟩
  | true =>
    cases g2 with
    | false =>
      go_enter Tryd.func15, Tryd.ntmps15
      go_wp2_with (first
          | ((with_reducible refine isLoad ?_); refine ldA H ?_)
          | ((with_reducible refine isBox ?_); refine bxA H ?_; clear H; intro _ _ H))
      refine (within_any a1 b1 c1 d1 true _ Ha1.out Hb1.out Hc1.out Hd1.out G1 H.out.tb).mono ?_
      rintro _ _ ⟨rfl, hb⟩
      replace H := Lib.hid (H.out.go hb)
      clear hb
      go_wp2_with (first
          | ((with_reducible refine isLoad ?_); refine ldA H ?_))
      refine (within_any a2 b2 c2 d2 false _ Ha2.out Hb2.out Hc2.out Hd2.out G2 H.out.tb).mono ?_
      rintro _ _ ⟨rfl, hb⟩
      replace H := Lib.hid (H.out.go hb)
      clear hb
      go_wp2_with (first
          | go_skip)
      go_ret
      exact ⟨rfl, H.out.bel⟩
    | true =>
      go_enter Tryd.func15, Tryd.ntmps15
      go_wp2_with (first
          | ((with_reducible refine isLoad ?_); refine ldA H ?_)
          | ((with_reducible refine isBox ?_); refine bxA H ?_; clear H; intro _ _ H))
      refine (within_any a1 b1 c1 d1 true _ Ha1.out Hb1.out Hc1.out Hd1.out G1 H.out.tb).mono ?_
      rintro _ _ ⟨rfl, hb⟩
      replace H := Lib.hid (H.out.go hb)
      clear hb
      go_wp2_with (first
          | ((with_reducible refine isLoad ?_); refine ldA H ?_))
      refine (within_any a2 b2 c2 d2 true _ Ha2.out Hb2.out Hc2.out Hd2.out G2 H.out.tb).mono ?_
      rintro _ _ ⟨rfl, hb⟩
      replace H := Lib.hid (H.out.go hb)
      clear hb
      go_wp2_with (first
          | ((with_reducible refine isLoad ?_); refine ldA H ?_))
      refine (within_any a3 b3 c3 d3 g3 _ Ha3.out Hb3.out Hc3.out Hd3.out G3 H.out.tb).mono ?_
      rintro _ _ ⟨rfl, hb⟩
      replace H := Lib.hid (H.out.go hb)
      clear hb
      go_wp2_with (first
          | go_skip)
      go_ret
      exact ⟨rfl, H.out.bel⟩
end Go.Proofs.YtolekonocbeekaaDoor

namespace Go.Proofs.YtolekonocbeekaaDoor
open Go.RowKit
set_option linter.unusedVariables false
set_option maxRecDepth 100000

set_option maxHeartbeats 4000000 in
theorem Same_any (a1 b1 a2 b2 a3 b3 c1 d1 c2 d2 c3 d3 : Option Rat) (g1 g2 g3 e1 e2 e3 : Bool) (w : World) (ha1 : SmO a1) (hb1 : SmO b1) (ha2 : SmO a2) (hb2 : SmO b2) (ha3 : SmO a3) (hb3 : SmO b3) (hc1 : SmO c1) (hd1 : SmO d1) (hc2 : SmO c2) (hd2 : SmO d2) (hc3 : SmO c3) (hd3 : SmO d3) (G1 : Hid (inS a1 b1 c1 d1 = g1)) (G2 : Hid (inS a2 b2 c2 d2 = g2)) (G3 : Hid (inS a3 b3 c3 d3 = g3)) (E1 : Hid (inS c1 d1 a1 b1 = e1)) (E2 : Hid (inS c2 d2 a2 b2 = e2)) (E3 : Hid (inS c3 d3 a3 b3 = e3)) (hT : Tb w) :
    Calls Tryd.prog 16 #[.agg #[.bool (sgO a1), .string (nuO a1), .string (deO a1), .bool (sgO b1), .string (nuO b1), .string (deO b1), .bool (sgO a2), .string (nuO a2), .string (deO a2), .bool (sgO b2), .string (nuO b2), .string (deO b2), .bool (sgO a3), .string (nuO a3), .string (deO a3), .bool (sgO b3), .string (nuO b3), .string (deO b3)], .agg #[.bool (sgO c1), .string (nuO c1), .string (deO c1), .bool (sgO d1), .string (nuO d1), .string (deO d1), .bool (sgO c2), .string (nuO c2), .string (deO c2), .bool (sgO d2), .string (nuO d2), .string (deO d2), .bool (sgO c3), .string (nuO c3), .string (deO c3), .bool (sgO d3), .string (nuO d3), .string (deO d3)]] w fun e w' => e = .returned (.bool ((g1 && (g2 && g3)) && (e1 && (e2 && e3)))) ∧ Below w.heap.size w w' := by
  have H := Lib.hid (Hp.start hT)
  clear hT
  have Ha1 := Lib.hid ha1
  have Hb1 := Lib.hid hb1
  have Ha2 := Lib.hid ha2
  have Hb2 := Lib.hid hb2
  have Ha3 := Lib.hid ha3
  have Hb3 := Lib.hid hb3
  have Hc1 := Lib.hid hc1
  have Hd1 := Lib.hid hd1
  have Hc2 := Lib.hid hc2
  have Hd2 := Lib.hid hd2
  have Hc3 := Lib.hid hc3
  have Hd3 := Lib.hid hd3
  clear ha1 hb1 ha2 hb2 ha3 hb3 hc1 hd1 hc2 hd2 hc3 hd3
  have CA := fun w (hT : Tb w) => Inside_any a1 b1 a2 b2 a3 b3 c1 d1 c2 d2 c3 d3 g1 g2 g3 w Ha1.out Hb1.out Ha2.out Hb2.out Ha3.out Hb3.out Hc1.out Hd1.out Hc2.out Hd2.out Hc3.out Hd3.out G1 G2 G3 hT
  have CB := fun w (hT : Tb w) => Inside_any c1 d1 c2 d2 c3 d3 a1 b1 a2 b2 a3 b3 e1 e2 e3 w Hc1.out Hd1.out Hc2.out Hd2.out Hc3.out Hd3.out Ha1.out Hb1.out Ha2.out Hb2.out Ha3.out Hb3.out E1 E2 E3 hT
  clear G1 G2 G3 E1 E2 E3
  generalize (g1 && (g2 && g3)) = g at CA ⊢
  generalize (e1 && (e2 && e3)) = e at CB ⊢
  have CA := Lib.hid CA
  have CB := Lib.hid CB
  cases g with
  | false =>
    go_enter Tryd.func16, Tryd.ntmps16
    go_wp2_with (first
        | ((with_reducible refine isLoad ?_); refine ldA H ?_)
        | ((with_reducible refine isBox ?_); refine bxA H ?_; clear H; intro _ _ H))
    refine (CA.out _ H.out.tb).mono ?_
    rintro _ _ ⟨rfl, hb⟩
    replace H := Lib.hid (H.out.go hb)
    clear hb
    go_wp2_with (first
        | go_skip)
    go_ret
    exact ⟨rfl, H.out.bel⟩
  | true =>
    go_enter Tryd.func16, Tryd.ntmps16
    go_wp2_with (first
        | ((with_reducible refine isLoad ?_); refine ldA H ?_)
        | ((with_reducible refine isBox ?_); refine bxA H ?_; clear H; intro _ _ H))
    refine (CA.out _ H.out.tb).mono ?_
    rintro _ _ ⟨rfl, hb⟩
    replace H := Lib.hid (H.out.go hb)
    clear hb
    go_wp2_with (first
        | ((with_reducible refine isLoad ?_); refine ldA H ?_))
    refine (CB.out _ H.out.tb).mono ?_
    rintro _ _ ⟨rfl, hb⟩
    replace H := Lib.hid (H.out.go hb)
    clear hb
    go_wp2_with (first
        | go_skip)
    go_ret
    exact ⟨rfl, H.out.bel⟩
end Go.Proofs.YtolekonocbeekaaDoor

namespace Go.Proofs.YtolekonocbeekaaDoor
open Go.RowKit
set_option linter.unusedVariables false
set_option maxRecDepth 100000

/-- The lesser, the greater: as rat.Min, rat.Max say it. -/
def mn (p q : Rat) : Rat := if p ≤ q then p else q
def mx (p q : Rat) : Rat := if q ≤ p then p else q
theorem Sz.mn {j k : Nat} {p q : Rat} (hp : Sz j p) (hq : Sz k q) : Sz (j + k) (mn p q) := Sz.ite (hp.mono (by omega)) (hq.mono (by omega))
theorem Sz.mx {j k : Nat} {p q : Rat} (hp : Sz j p) (hq : Sz k q) : Sz (j + k) (mx p q) := Sz.ite (hp.mono (by omega)) (hq.mono (by omega))
theorem szEq {k : Nat} {x u : Rat} (h : Hid (x = u)) (hz : Sz k x) : Hid (Sz k u) := by rw [← h.out]; exact hz
theorem szNm1 {j k : Nat} {a b : Option Rat} {p q : Rat} (ha : SzO j a) (hb : SzO k b) (h : Hid (nmS a b = (p, q))) : Hid (Sz (j + k + 1) p) := (Sz.nm (k := j + k + 1) (Sz.mono ha (by omega)) (Sz.mono hb (by omega)) (by omega) h.out).1
theorem szNm2 {j k : Nat} {a b : Option Rat} {p q : Rat} (ha : SzO j a) (hb : SzO k b) (h : Hid (nmS a b = (p, q))) : Hid (Sz (j + k + 1) q) := (Sz.nm (k := j + k + 1) (Sz.mono ha (by omega)) (Sz.mono hb (by omega)) (by omega) h.out).2
theorem mn_le (a b : Rat) : mn a b ≤ a ∧ mn a b ≤ b := by unfold mn; split <;> grind
theorem le_mx (a b : Rat) : a ≤ mx a b ∧ b ≤ mx a b := by unfold mx; split <;> grind
/-- The meeting of two spans. -/
def mtL (a b c d : Option Rat) : Rat := mx (nmS a b).1 (nmS c d).1
def mtH (a b c d : Option Rat) : Rat := mn (nmS a b).2 (nmS c d).2
end Go.Proofs.YtolekonocbeekaaDoor

namespace Go.Proofs.YtolekonocbeekaaDoor
open Go.RowKit
set_option linter.unusedVariables false
set_option maxRecDepth 100000

def mdS (a b : Option Rat) : Rat := ((nmS a b).1 + (nmS a b).2) / ((2 : Int) : Rat)
set_option maxHeartbeats 4000000 in
theorem seeMid_any {k : Nat} (a : Option Rat) (b : Option Rat) (m : Rat) (w : World) (hk : k ≤ 200) (Za : Hid (SzO k a)) (Zb : Hid (SzO k b)) (Fm : Hid (mdS a b = m)) (hT : Tb w) :
    Calls Tryd.prog 60 #[.agg #[.bool (sgO a), .string (nuO a), .string (deO a), .bool (sgO b), .string (nuO b), .string (deO b)]] w fun e w' => e = .returned (.agg #[.bool (sgO (some m)), .string (nuO (some m)), .string (deO (some m))]) ∧ Below w.heap.size w w' := by
  have H := Lib.hid (Hp.start hT)
  clear hT
  have Sa : Hid (SmO a) := SzO.sm Za (by omega)
  have Sb : Hid (SmO b) := SzO.sm Zb (by omega)
  obtain ⟨p, Ep⟩ : ∃ z : Rat, Hid ((nmS a b).1 = z) := ⟨_, rfl⟩
  have Zp : Hid (Sz (k + k + 1) p) := szEq Ep (szNm1 Za Zb rfl)
  have Sp : Hid (SmO (some p)) := Sz.o Zp (by omega)
  obtain ⟨q, Eq⟩ : ∃ z : Rat, Hid ((nmS a b).2 = z) := ⟨_, rfl⟩
  have Zq : Hid (Sz (k + k + 1) q) := szEq Eq (szNm2 Za Zb rfl)
  have Sq : Hid (SmO (some q)) := Sz.o Zq (by omega)
  have Npq : Hid (nmS a b = (p, q)) := by have h1 := Ep.out; have h2 := Eq.out; subst_vars; rfl
  obtain ⟨s, Es⟩ : ∃ z : Rat, Hid (p + q = z) := ⟨_, rfl⟩
  have Zs : Hid (Sz ((k + k + 1) + (k + k + 1) + 1) s) := szEq Es (Sz.add Zp Zq)
  have Ss : Hid (SmO (some s)) := Sz.o Zs (by omega)
  obtain ⟨t, Et⟩ : ∃ z : Rat, Hid (((2 : Int) : Rat) = z) := ⟨_, rfl⟩
  have Zt : Hid (Sz 3 t) := szEq Et (Sz.int (2) (by decide))
  have St : Hid (SmO (some t)) := Sz.o Zt (by omega)
  have Nt : Hid (valO (some t) ≠ 0) := by have h1 := Et.out; subst_vars; show ((2 : Int) : Rat) ≠ 0; decide
  have Em : Hid (s / t = m) := by have h0 := Fm.out; have h1 := Ep.out; have h2 := Eq.out; have h3 := Es.out; have h4 := Et.out; subst_vars; rfl
  have Zm : Hid (Sz (((k + k + 1) + (k + k + 1) + 1) + 3) m) := szEq Em (Sz.div Zs Zt Nt)
  have Sm : Hid (SmO (some m)) := Sz.o Zm (by omega)
  go_enter Tryd.func60, Tryd.ntmps60
  go_wp2_with (first
      | ((with_reducible refine isLoad ?_); refine ldA H ?_)
      | ((with_reducible refine isBox ?_); refine bxA H ?_; clear H; intro _ _ H)
      | ((with_reducible refine isAlloc ?_); refine alA H ?_; clear H; intro _ _ H))
  refine (norm_any a b p q _ Sa Sb Npq H.out.tb).mono ?_
  rintro _ _ ⟨rfl, hb⟩
  replace H := Lib.hid (H.out.go hb)
  clear hb
  go_wp2_with (first
      | ((with_reducible refine isLoad ?_); refine ldA H ?_)
      | ((with_reducible refine isStore ?_); refine stA H ?_; clear H; intro _ H))
  refine (RAdd_any (some p) (some q) s _ Sp Sq Es H.out.tb).mono ?_
  rintro _ _ ⟨rfl, hb⟩
  replace H := Lib.hid (H.out.go hb)
  clear hb
  go_wp2_with (first
      | go_skip)
  refine (ROf_any (2) t _ (by decide) (by decide) Et H.out.tb).mono ?_
  rintro _ _ ⟨rfl, hb⟩
  replace H := Lib.hid (H.out.go hb)
  clear hb
  go_wp2_with (first
      | go_skip)
  refine (RDiv_any (some s) (some t) m _ Ss St Nt Em H.out.tb).mono ?_
  rintro _ _ ⟨rfl, hb⟩
  replace H := Lib.hid (H.out.go hb)
  clear hb
  go_wp2_with (first
      | ((with_reducible refine isLoad ?_); refine ldA H ?_)
      | ((with_reducible refine isStore ?_); refine stA H ?_; clear H; intro _ H)
      | ((with_reducible refine isAlloc ?_); refine alA H ?_; clear H; intro _ _ H))
  exact bodyPost_ret (results_H H Tryd.results60 (by (first | exact rRat | exact rSpan | exact rPose | exact rFrame | exact rVec | exact rTurn | exact rBox)) rfl (by (repeat (first | exact List.Mem.head _ | refine List.Mem.tail _ ?_ | assumption))) (by rfl)) rfl ⟨rfl, H.out.bel⟩
end Go.Proofs.YtolekonocbeekaaDoor

namespace Go.Proofs.YtolekonocbeekaaDoor
open Go.RowKit
set_option linter.unusedVariables false
set_option maxRecDepth 100000

set_option maxHeartbeats 4000000 in
theorem Middle_any {k : Nat} (a1 : Option Rat) (b1 : Option Rat) (a2 : Option Rat) (b2 : Option Rat) (a3 : Option Rat) (b3 : Option Rat) (m1 m2 m3 : Rat) (w : World) (hk : k ≤ 200) (Za1 : Hid (SzO k a1)) (Zb1 : Hid (SzO k b1)) (Za2 : Hid (SzO k a2)) (Zb2 : Hid (SzO k b2)) (Za3 : Hid (SzO k a3)) (Zb3 : Hid (SzO k b3)) (Em1 : Hid (mdS a1 b1 = m1)) (Em2 : Hid (mdS a2 b2 = m2)) (Em3 : Hid (mdS a3 b3 = m3)) (hT : Tb w) :
    Calls Tryd.prog 24 #[.agg #[.bool (sgO a1), .string (nuO a1), .string (deO a1), .bool (sgO b1), .string (nuO b1), .string (deO b1), .bool (sgO a2), .string (nuO a2), .string (deO a2), .bool (sgO b2), .string (nuO b2), .string (deO b2), .bool (sgO a3), .string (nuO a3), .string (deO a3), .bool (sgO b3), .string (nuO b3), .string (deO b3)]] w fun e w' => e = .returned (.agg #[.bool (sgO (some m1)), .string (nuO (some m1)), .string (deO (some m1)), .bool (sgO (some m2)), .string (nuO (some m2)), .string (deO (some m2)), .bool false, .bool (sgO (some m3)), .string (nuO (some m3)), .string (deO (some m3))]) ∧ Below w.heap.size w w' := by
  have H := Lib.hid (Hp.start hT)
  clear hT
  have Sa1 : Hid (SmO a1) := SzO.sm Za1 (by omega)
  have Sb1 : Hid (SmO b1) := SzO.sm Zb1 (by omega)
  have Sa2 : Hid (SmO a2) := SzO.sm Za2 (by omega)
  have Sb2 : Hid (SmO b2) := SzO.sm Zb2 (by omega)
  have Sa3 : Hid (SmO a3) := SzO.sm Za3 (by omega)
  have Sb3 : Hid (SmO b3) := SzO.sm Zb3 (by omega)
  go_enter Tryd.func24, Tryd.ntmps24
  go_wp2_with (first
      | ((with_reducible refine isBox ?_); refine bxA H ?_; clear H; intro _ _ H)
      | ((with_reducible refine isAlloc ?_); refine alA H ?_; clear H; intro _ _ H))
  refine wp_region_T 15 H (by kernel_rfl) (by kernel_rfl) ?_
  simp only [List.take_succ_cons, List.take_zero, List.drop_succ_cons, List.drop_zero]
  repeat (first
      | ((with_reducible refine kLoad ?_); refine kldA H ?_)
      | ((fail_if_success (with_reducible refine kCall ?_)); (with_reducible refine kCons ?_); refine wpK_step (fun K hK => ?_); go_simp; refine hK _ ?_; clear hK K))
  refine wpK_step (fun K hK => ?_)
  go_simp
  apply Exists.intro
  refine ⟨fun sx => ?_, hK _ ?_⟩
  · go_at_call 60
    exact seeMid_any a1 b1 m1 _ (by omega) Za1 Zb1 Em1 (H.out.tbx sx)
  clear hK K
  repeat (first
      | ((with_reducible refine kLoad ?_); refine kldA H ?_)
      | ((fail_if_success (with_reducible refine kCall ?_)); (with_reducible refine kCons ?_); refine wpK_step (fun K hK => ?_); go_simp; refine hK _ ?_; clear hK K))
  refine wpK_step (fun K hK => ?_)
  go_simp
  apply Exists.intro
  refine ⟨fun sx => ?_, hK _ ?_⟩
  · go_at_call 60
    exact seeMid_any a2 b2 m2 _ (by omega) Za2 Zb2 Em2 (H.out.tbx sx)
  clear hK K
  repeat (first
      | ((with_reducible refine kLoad ?_); refine kldA H ?_)
      | ((fail_if_success (with_reducible refine kCall ?_)); (with_reducible refine kCons ?_); refine wpK_step (fun K hK => ?_); go_simp; refine hK _ ?_; clear hK K))
  refine wpK_step (fun K hK => ?_)
  go_simp
  apply Exists.intro
  refine ⟨fun sx => ?_, hK _ ?_⟩
  · go_at_call 60
    exact seeMid_any a3 b3 m3 _ (by omega) Za3 Zb3 Em3 (H.out.tbx sx)
  clear hK K
  repeat (first
      | ((fail_if_success (with_reducible refine kCall ?_)); (with_reducible refine kCons ?_); refine wpK_step (fun K hK => ?_); go_simp; refine hK _ ?_; clear hK K))
  refine wpKeep_nil ?_
  clear H
  intro _ H
  go_wp2_with (first
      | ((with_reducible refine isStore ?_); refine stA H ?_; clear H; intro _ H))
  exact bodyPost_ret (results_H H Tryd.results24 (by (first | exact rRat | exact rSpan | exact rPose | exact rFrame | exact rVec | exact rTurn | exact rBox)) rfl (by (repeat (first | exact List.Mem.head _ | refine List.Mem.tail _ ?_ | assumption))) (by rfl)) rfl ⟨rfl, H.out.bel⟩
end Go.Proofs.YtolekonocbeekaaDoor

namespace Go.Proofs.YtolekonocbeekaaDoor
open Go.RowKit
set_option linter.unusedVariables false
set_option maxRecDepth 100000

theorem meetS_any {k : Nat} (a b c d : Option Rat) (u v : Rat) (g : Bool) (w : World) (hk : k ≤ 9000) (Za : Hid (SzO k a)) (Zb : Hid (SzO k b)) (Zc : Hid (SzO k c)) (Zd : Hid (SzO k d)) (Eu : Hid (mtL a b c d = u)) (Ev : Hid (mtH a b c d = v)) (Eg : Hid (decide (u ≤ v) = g)) (hT : Tb w) :
    Calls Tryd.prog 47 #[.agg #[.bool (sgO a), .string (nuO a), .string (deO a), .bool (sgO b), .string (nuO b), .string (deO b)], .agg #[.bool (sgO c), .string (nuO c), .string (deO c), .bool (sgO d), .string (nuO d), .string (deO d)]] w fun e w' => e = .returned (.tuple #[.agg #[.bool (sgO (some u)), .string (nuO (some u)), .string (deO (some u)), .bool (sgO (some v)), .string (nuO (some v)), .string (deO (some v))], .bool g]) ∧ Below w.heap.size w w' :=
  meet_any a b c d _ _ _ _ u v g w (SzO.sm Za (by omega)) (SzO.sm Zb (by omega)) (SzO.sm Zc (by omega)) (SzO.sm Zd (by omega)) rfl rfl Eu Ev Eg hT
end Go.Proofs.YtolekonocbeekaaDoor

namespace Go.Proofs.YtolekonocbeekaaDoor
open Go.RowKit
set_option linter.unusedVariables false
set_option maxRecDepth 100000

set_option maxHeartbeats 4000000 in
theorem Narrow_ok {k : Nat} (a1 : Option Rat) (b1 : Option Rat) (a2 : Option Rat) (b2 : Option Rat) (a3 : Option Rat) (b3 : Option Rat) (c1 : Option Rat) (d1 : Option Rat) (c2 : Option Rat) (d2 : Option Rat) (c3 : Option Rat) (d3 : Option Rat) (u1 v1 : Rat) (u2 v2 : Rat) (u3 v3 : Rat) (w : World) (hk : k ≤ 9000) (Za1 : Hid (SzO k a1)) (Zb1 : Hid (SzO k b1)) (Za2 : Hid (SzO k a2)) (Zb2 : Hid (SzO k b2)) (Za3 : Hid (SzO k a3)) (Zb3 : Hid (SzO k b3)) (Zc1 : Hid (SzO k c1)) (Zd1 : Hid (SzO k d1)) (Zc2 : Hid (SzO k c2)) (Zd2 : Hid (SzO k d2)) (Zc3 : Hid (SzO k c3)) (Zd3 : Hid (SzO k d3)) (Eu1 : Hid (mtL a1 b1 c1 d1 = u1)) (Ev1 : Hid (mtH a1 b1 c1 d1 = v1)) (G1 : Hid (decide (u1 ≤ v1) = true)) (Eu2 : Hid (mtL a2 b2 c2 d2 = u2)) (Ev2 : Hid (mtH a2 b2 c2 d2 = v2)) (G2 : Hid (decide (u2 ≤ v2) = true)) (Eu3 : Hid (mtL a3 b3 c3 d3 = u3)) (Ev3 : Hid (mtH a3 b3 c3 d3 = v3)) (G3 : Hid (decide (u3 ≤ v3) = true)) (hT : Tb w) :
    Calls Tryd.prog 12 #[.agg #[.bool (sgO a1), .string (nuO a1), .string (deO a1), .bool (sgO b1), .string (nuO b1), .string (deO b1), .bool (sgO a2), .string (nuO a2), .string (deO a2), .bool (sgO b2), .string (nuO b2), .string (deO b2), .bool (sgO a3), .string (nuO a3), .string (deO a3), .bool (sgO b3), .string (nuO b3), .string (deO b3)], .agg #[.bool (sgO c1), .string (nuO c1), .string (deO c1), .bool (sgO d1), .string (nuO d1), .string (deO d1), .bool (sgO c2), .string (nuO c2), .string (deO c2), .bool (sgO d2), .string (nuO d2), .string (deO d2), .bool (sgO c3), .string (nuO c3), .string (deO c3), .bool (sgO d3), .string (nuO d3), .string (deO d3)]] w fun e w' => e = .returned (.tuple #[.agg #[.bool (sgO (some u1)), .string (nuO (some u1)), .string (deO (some u1)), .bool (sgO (some v1)), .string (nuO (some v1)), .string (deO (some v1)), .bool (sgO (some u2)), .string (nuO (some u2)), .string (deO (some u2)), .bool (sgO (some v2)), .string (nuO (some v2)), .string (deO (some v2)), .bool (sgO (some u3)), .string (nuO (some u3)), .string (deO (some u3)), .bool (sgO (some v3)), .string (nuO (some v3)), .string (deO (some v3))], .int .i64 0]) ∧ Below w.heap.size w w' := by
  have H := Lib.hid (Hp.start hT)
  clear hT
  have Sa1 : Hid (SmO a1) := SzO.sm Za1 (by omega)
  have Sb1 : Hid (SmO b1) := SzO.sm Zb1 (by omega)
  have Sa2 : Hid (SmO a2) := SzO.sm Za2 (by omega)
  have Sb2 : Hid (SmO b2) := SzO.sm Zb2 (by omega)
  have Sa3 : Hid (SmO a3) := SzO.sm Za3 (by omega)
  have Sb3 : Hid (SmO b3) := SzO.sm Zb3 (by omega)
  have Sc1 : Hid (SmO c1) := SzO.sm Zc1 (by omega)
  have Sd1 : Hid (SmO d1) := SzO.sm Zd1 (by omega)
  have Sc2 : Hid (SmO c2) := SzO.sm Zc2 (by omega)
  have Sd2 : Hid (SmO d2) := SzO.sm Zd2 (by omega)
  have Sc3 : Hid (SmO c3) := SzO.sm Zc3 (by omega)
  have Sd3 : Hid (SmO d3) := SzO.sm Zd3 (by omega)
  go_enter Tryd.func12, Tryd.ntmps12
  go_wp2_with (first
      | ((with_reducible refine isLoad ?_); refine ldA H ?_)
      | ((with_reducible refine isBox ?_); refine bxA H ?_; clear H; intro _ _ H)
      | ((with_reducible refine isAlloc ?_); refine alA H ?_; clear H; intro _ _ H))
  refine (meetS_any a1 b1 c1 d1 u1 v1 true _ (by omega) Za1 Zb1 Zc1 Zd1 Eu1 Ev1 G1 H.out.tb).mono ?_
  rintro _ _ ⟨rfl, hb⟩
  replace H := Lib.hid (H.out.go hb)
  clear hb
  go_wp2_with (first
      | ((with_reducible refine isLoad ?_); refine ldA H ?_)
      | ((with_reducible refine isStore ?_); refine stA H ?_; clear H; intro _ H)
      | ((with_reducible refine isAlloc ?_); refine alA H ?_; clear H; intro _ _ H))
  refine (meetS_any a2 b2 c2 d2 u2 v2 true _ (by omega) Za2 Zb2 Zc2 Zd2 Eu2 Ev2 G2 H.out.tb).mono ?_
  rintro _ _ ⟨rfl, hb⟩
  replace H := Lib.hid (H.out.go hb)
  clear hb
  go_wp2_with (first
      | ((with_reducible refine isLoad ?_); refine ldA H ?_)
      | ((with_reducible refine isStore ?_); refine stA H ?_; clear H; intro _ H)
      | ((with_reducible refine isAlloc ?_); refine alA H ?_; clear H; intro _ _ H))
  refine (meetS_any a3 b3 c3 d3 u3 v3 true _ (by omega) Za3 Zb3 Zc3 Zd3 Eu3 Ev3 G3 H.out.tb).mono ?_
  rintro _ _ ⟨rfl, hb⟩
  replace H := Lib.hid (H.out.go hb)
  clear hb
  go_wp2_with (first
      | ((with_reducible refine isLoad ?_); refine ldA H ?_)
      | ((with_reducible refine isStore ?_); refine stA H ?_; clear H; intro _ H)
      | ((with_reducible refine isAlloc ?_); refine alA H ?_; clear H; intro _ _ H))
  exact bodyPost_ret (results_Hv H Tryd.results12 (by (first | exact rRat | exact rSpan | exact rPose | exact rFrame | exact rVec | exact rTurn | exact rBox)) rfl (by (repeat (first | exact List.Mem.head _ | refine List.Mem.tail _ ?_ | assumption))) (by rfl) (by rfl)) rfl ⟨rfl, H.out.bel⟩
end Go.Proofs.YtolekonocbeekaaDoor

namespace Go.Proofs.YtolekonocbeekaaDoor
open Go.RowKit
set_option linter.unusedVariables false
set_option maxRecDepth 100000

set_option maxHeartbeats 4000000 in
theorem Narrow_no1 {k : Nat} (a1 : Option Rat) (b1 : Option Rat) (a2 : Option Rat) (b2 : Option Rat) (a3 : Option Rat) (b3 : Option Rat) (c1 : Option Rat) (d1 : Option Rat) (c2 : Option Rat) (d2 : Option Rat) (c3 : Option Rat) (d3 : Option Rat) (u1 v1 : Rat) (u2 v2 : Rat) (g2 : Bool) (u3 v3 : Rat) (g3 : Bool) (w : World) (hk : k ≤ 9000) (Za1 : Hid (SzO k a1)) (Zb1 : Hid (SzO k b1)) (Za2 : Hid (SzO k a2)) (Zb2 : Hid (SzO k b2)) (Za3 : Hid (SzO k a3)) (Zb3 : Hid (SzO k b3)) (Zc1 : Hid (SzO k c1)) (Zd1 : Hid (SzO k d1)) (Zc2 : Hid (SzO k c2)) (Zd2 : Hid (SzO k d2)) (Zc3 : Hid (SzO k c3)) (Zd3 : Hid (SzO k d3)) (Eu1 : Hid (mtL a1 b1 c1 d1 = u1)) (Ev1 : Hid (mtH a1 b1 c1 d1 = v1)) (G1 : Hid (decide (u1 ≤ v1) = false)) (Eu2 : Hid (mtL a2 b2 c2 d2 = u2)) (Ev2 : Hid (mtH a2 b2 c2 d2 = v2)) (G2 : Hid (decide (u2 ≤ v2) = g2)) (Eu3 : Hid (mtL a3 b3 c3 d3 = u3)) (Ev3 : Hid (mtH a3 b3 c3 d3 = v3)) (G3 : Hid (decide (u3 ≤ v3) = g3)) (hT : Tb w) :
    Calls Tryd.prog 12 #[.agg #[.bool (sgO a1), .string (nuO a1), .string (deO a1), .bool (sgO b1), .string (nuO b1), .string (deO b1), .bool (sgO a2), .string (nuO a2), .string (deO a2), .bool (sgO b2), .string (nuO b2), .string (deO b2), .bool (sgO a3), .string (nuO a3), .string (deO a3), .bool (sgO b3), .string (nuO b3), .string (deO b3)], .agg #[.bool (sgO c1), .string (nuO c1), .string (deO c1), .bool (sgO d1), .string (nuO d1), .string (deO d1), .bool (sgO c2), .string (nuO c2), .string (deO c2), .bool (sgO d2), .string (nuO d2), .string (deO d2), .bool (sgO c3), .string (nuO c3), .string (deO c3), .bool (sgO d3), .string (nuO d3), .string (deO d3)]] w fun e w' => e = .returned (.tuple #[.agg #[.bool false, .string ⟨#[]⟩, .string ⟨#[]⟩, .bool false, .string ⟨#[]⟩, .string ⟨#[]⟩, .bool false, .string ⟨#[]⟩, .string ⟨#[]⟩, .bool false, .string ⟨#[]⟩, .string ⟨#[]⟩, .bool false, .string ⟨#[]⟩, .string ⟨#[]⟩, .bool false, .string ⟨#[]⟩, .string ⟨#[]⟩], .int .i64 4]) ∧ Below w.heap.size w w' := by
  have H := Lib.hid (Hp.start hT)
  clear hT
  have Sa1 : Hid (SmO a1) := SzO.sm Za1 (by omega)
  have Sb1 : Hid (SmO b1) := SzO.sm Zb1 (by omega)
  have Sa2 : Hid (SmO a2) := SzO.sm Za2 (by omega)
  have Sb2 : Hid (SmO b2) := SzO.sm Zb2 (by omega)
  have Sa3 : Hid (SmO a3) := SzO.sm Za3 (by omega)
  have Sb3 : Hid (SmO b3) := SzO.sm Zb3 (by omega)
  have Sc1 : Hid (SmO c1) := SzO.sm Zc1 (by omega)
  have Sd1 : Hid (SmO d1) := SzO.sm Zd1 (by omega)
  have Sc2 : Hid (SmO c2) := SzO.sm Zc2 (by omega)
  have Sd2 : Hid (SmO d2) := SzO.sm Zd2 (by omega)
  have Sc3 : Hid (SmO c3) := SzO.sm Zc3 (by omega)
  have Sd3 : Hid (SmO d3) := SzO.sm Zd3 (by omega)
  go_enter Tryd.func12, Tryd.ntmps12
  go_wp2_with (first
      | ((with_reducible refine isLoad ?_); refine ldA H ?_)
      | ((with_reducible refine isBox ?_); refine bxA H ?_; clear H; intro _ _ H)
      | ((with_reducible refine isAlloc ?_); refine alA H ?_; clear H; intro _ _ H))
  refine (meetS_any a1 b1 c1 d1 u1 v1 false _ (by omega) Za1 Zb1 Zc1 Zd1 Eu1 Ev1 G1 H.out.tb).mono ?_
  rintro _ _ ⟨rfl, hb⟩
  replace H := Lib.hid (H.out.go hb)
  clear hb
  go_wp2_with (first
      | ((with_reducible refine isLoad ?_); refine ldA H ?_)
      | ((with_reducible refine isStore ?_); refine stA H ?_; clear H; intro _ H)
      | ((with_reducible refine isAlloc ?_); refine alA H ?_; clear H; intro _ _ H))
  refine (meetS_any a2 b2 c2 d2 u2 v2 g2 _ (by omega) Za2 Zb2 Zc2 Zd2 Eu2 Ev2 G2 H.out.tb).mono ?_
  rintro _ _ ⟨rfl, hb⟩
  replace H := Lib.hid (H.out.go hb)
  clear hb
  go_wp2_with (first
      | ((with_reducible refine isLoad ?_); refine ldA H ?_)
      | ((with_reducible refine isStore ?_); refine stA H ?_; clear H; intro _ H)
      | ((with_reducible refine isAlloc ?_); refine alA H ?_; clear H; intro _ _ H))
  refine (meetS_any a3 b3 c3 d3 u3 v3 g3 _ (by omega) Za3 Zb3 Zc3 Zd3 Eu3 Ev3 G3 H.out.tb).mono ?_
  rintro _ _ ⟨rfl, hb⟩
  replace H := Lib.hid (H.out.go hb)
  clear hb
  go_wp2_with (first
      | ((with_reducible refine isStore ?_); refine stA H ?_; clear H; intro _ H)
      | ((with_reducible refine isAlloc ?_); refine alA H ?_; clear H; intro _ _ H))
  exact bodyPost_ret (results_Hv H Tryd.results12 (by (first | exact rRat | exact rSpan | exact rPose | exact rFrame | exact rVec | exact rTurn | exact rBox)) rfl (by (repeat (first | exact List.Mem.head _ | refine List.Mem.tail _ ?_ | assumption))) (by rfl) (by rfl)) rfl ⟨rfl, H.out.bel⟩

set_option maxHeartbeats 4000000 in
theorem Narrow_no2 {k : Nat} (a1 : Option Rat) (b1 : Option Rat) (a2 : Option Rat) (b2 : Option Rat) (a3 : Option Rat) (b3 : Option Rat) (c1 : Option Rat) (d1 : Option Rat) (c2 : Option Rat) (d2 : Option Rat) (c3 : Option Rat) (d3 : Option Rat) (u1 v1 : Rat) (u2 v2 : Rat) (u3 v3 : Rat) (g3 : Bool) (w : World) (hk : k ≤ 9000) (Za1 : Hid (SzO k a1)) (Zb1 : Hid (SzO k b1)) (Za2 : Hid (SzO k a2)) (Zb2 : Hid (SzO k b2)) (Za3 : Hid (SzO k a3)) (Zb3 : Hid (SzO k b3)) (Zc1 : Hid (SzO k c1)) (Zd1 : Hid (SzO k d1)) (Zc2 : Hid (SzO k c2)) (Zd2 : Hid (SzO k d2)) (Zc3 : Hid (SzO k c3)) (Zd3 : Hid (SzO k d3)) (Eu1 : Hid (mtL a1 b1 c1 d1 = u1)) (Ev1 : Hid (mtH a1 b1 c1 d1 = v1)) (G1 : Hid (decide (u1 ≤ v1) = true)) (Eu2 : Hid (mtL a2 b2 c2 d2 = u2)) (Ev2 : Hid (mtH a2 b2 c2 d2 = v2)) (G2 : Hid (decide (u2 ≤ v2) = false)) (Eu3 : Hid (mtL a3 b3 c3 d3 = u3)) (Ev3 : Hid (mtH a3 b3 c3 d3 = v3)) (G3 : Hid (decide (u3 ≤ v3) = g3)) (hT : Tb w) :
    Calls Tryd.prog 12 #[.agg #[.bool (sgO a1), .string (nuO a1), .string (deO a1), .bool (sgO b1), .string (nuO b1), .string (deO b1), .bool (sgO a2), .string (nuO a2), .string (deO a2), .bool (sgO b2), .string (nuO b2), .string (deO b2), .bool (sgO a3), .string (nuO a3), .string (deO a3), .bool (sgO b3), .string (nuO b3), .string (deO b3)], .agg #[.bool (sgO c1), .string (nuO c1), .string (deO c1), .bool (sgO d1), .string (nuO d1), .string (deO d1), .bool (sgO c2), .string (nuO c2), .string (deO c2), .bool (sgO d2), .string (nuO d2), .string (deO d2), .bool (sgO c3), .string (nuO c3), .string (deO c3), .bool (sgO d3), .string (nuO d3), .string (deO d3)]] w fun e w' => e = .returned (.tuple #[.agg #[.bool false, .string ⟨#[]⟩, .string ⟨#[]⟩, .bool false, .string ⟨#[]⟩, .string ⟨#[]⟩, .bool false, .string ⟨#[]⟩, .string ⟨#[]⟩, .bool false, .string ⟨#[]⟩, .string ⟨#[]⟩, .bool false, .string ⟨#[]⟩, .string ⟨#[]⟩, .bool false, .string ⟨#[]⟩, .string ⟨#[]⟩], .int .i64 4]) ∧ Below w.heap.size w w' := by
  have H := Lib.hid (Hp.start hT)
  clear hT
  have Sa1 : Hid (SmO a1) := SzO.sm Za1 (by omega)
  have Sb1 : Hid (SmO b1) := SzO.sm Zb1 (by omega)
  have Sa2 : Hid (SmO a2) := SzO.sm Za2 (by omega)
  have Sb2 : Hid (SmO b2) := SzO.sm Zb2 (by omega)
  have Sa3 : Hid (SmO a3) := SzO.sm Za3 (by omega)
  have Sb3 : Hid (SmO b3) := SzO.sm Zb3 (by omega)
  have Sc1 : Hid (SmO c1) := SzO.sm Zc1 (by omega)
  have Sd1 : Hid (SmO d1) := SzO.sm Zd1 (by omega)
  have Sc2 : Hid (SmO c2) := SzO.sm Zc2 (by omega)
  have Sd2 : Hid (SmO d2) := SzO.sm Zd2 (by omega)
  have Sc3 : Hid (SmO c3) := SzO.sm Zc3 (by omega)
  have Sd3 : Hid (SmO d3) := SzO.sm Zd3 (by omega)
  go_enter Tryd.func12, Tryd.ntmps12
  go_wp2_with (first
      | ((with_reducible refine isLoad ?_); refine ldA H ?_)
      | ((with_reducible refine isBox ?_); refine bxA H ?_; clear H; intro _ _ H)
      | ((with_reducible refine isAlloc ?_); refine alA H ?_; clear H; intro _ _ H))
  refine (meetS_any a1 b1 c1 d1 u1 v1 true _ (by omega) Za1 Zb1 Zc1 Zd1 Eu1 Ev1 G1 H.out.tb).mono ?_
  rintro _ _ ⟨rfl, hb⟩
  replace H := Lib.hid (H.out.go hb)
  clear hb
  go_wp2_with (first
      | ((with_reducible refine isLoad ?_); refine ldA H ?_)
      | ((with_reducible refine isStore ?_); refine stA H ?_; clear H; intro _ H)
      | ((with_reducible refine isAlloc ?_); refine alA H ?_; clear H; intro _ _ H))
  refine (meetS_any a2 b2 c2 d2 u2 v2 false _ (by omega) Za2 Zb2 Zc2 Zd2 Eu2 Ev2 G2 H.out.tb).mono ?_
  rintro _ _ ⟨rfl, hb⟩
  replace H := Lib.hid (H.out.go hb)
  clear hb
  go_wp2_with (first
      | ((with_reducible refine isLoad ?_); refine ldA H ?_)
      | ((with_reducible refine isStore ?_); refine stA H ?_; clear H; intro _ H)
      | ((with_reducible refine isAlloc ?_); refine alA H ?_; clear H; intro _ _ H))
  refine (meetS_any a3 b3 c3 d3 u3 v3 g3 _ (by omega) Za3 Zb3 Zc3 Zd3 Eu3 Ev3 G3 H.out.tb).mono ?_
  rintro _ _ ⟨rfl, hb⟩
  replace H := Lib.hid (H.out.go hb)
  clear hb
  go_wp2_with (first
      | ((with_reducible refine isStore ?_); refine stA H ?_; clear H; intro _ H)
      | ((with_reducible refine isAlloc ?_); refine alA H ?_; clear H; intro _ _ H))
  exact bodyPost_ret (results_Hv H Tryd.results12 (by (first | exact rRat | exact rSpan | exact rPose | exact rFrame | exact rVec | exact rTurn | exact rBox)) rfl (by (repeat (first | exact List.Mem.head _ | refine List.Mem.tail _ ?_ | assumption))) (by rfl) (by rfl)) rfl ⟨rfl, H.out.bel⟩

set_option maxHeartbeats 4000000 in
theorem Narrow_no3 {k : Nat} (a1 : Option Rat) (b1 : Option Rat) (a2 : Option Rat) (b2 : Option Rat) (a3 : Option Rat) (b3 : Option Rat) (c1 : Option Rat) (d1 : Option Rat) (c2 : Option Rat) (d2 : Option Rat) (c3 : Option Rat) (d3 : Option Rat) (u1 v1 : Rat) (u2 v2 : Rat) (u3 v3 : Rat) (w : World) (hk : k ≤ 9000) (Za1 : Hid (SzO k a1)) (Zb1 : Hid (SzO k b1)) (Za2 : Hid (SzO k a2)) (Zb2 : Hid (SzO k b2)) (Za3 : Hid (SzO k a3)) (Zb3 : Hid (SzO k b3)) (Zc1 : Hid (SzO k c1)) (Zd1 : Hid (SzO k d1)) (Zc2 : Hid (SzO k c2)) (Zd2 : Hid (SzO k d2)) (Zc3 : Hid (SzO k c3)) (Zd3 : Hid (SzO k d3)) (Eu1 : Hid (mtL a1 b1 c1 d1 = u1)) (Ev1 : Hid (mtH a1 b1 c1 d1 = v1)) (G1 : Hid (decide (u1 ≤ v1) = true)) (Eu2 : Hid (mtL a2 b2 c2 d2 = u2)) (Ev2 : Hid (mtH a2 b2 c2 d2 = v2)) (G2 : Hid (decide (u2 ≤ v2) = true)) (Eu3 : Hid (mtL a3 b3 c3 d3 = u3)) (Ev3 : Hid (mtH a3 b3 c3 d3 = v3)) (G3 : Hid (decide (u3 ≤ v3) = false)) (hT : Tb w) :
    Calls Tryd.prog 12 #[.agg #[.bool (sgO a1), .string (nuO a1), .string (deO a1), .bool (sgO b1), .string (nuO b1), .string (deO b1), .bool (sgO a2), .string (nuO a2), .string (deO a2), .bool (sgO b2), .string (nuO b2), .string (deO b2), .bool (sgO a3), .string (nuO a3), .string (deO a3), .bool (sgO b3), .string (nuO b3), .string (deO b3)], .agg #[.bool (sgO c1), .string (nuO c1), .string (deO c1), .bool (sgO d1), .string (nuO d1), .string (deO d1), .bool (sgO c2), .string (nuO c2), .string (deO c2), .bool (sgO d2), .string (nuO d2), .string (deO d2), .bool (sgO c3), .string (nuO c3), .string (deO c3), .bool (sgO d3), .string (nuO d3), .string (deO d3)]] w fun e w' => e = .returned (.tuple #[.agg #[.bool false, .string ⟨#[]⟩, .string ⟨#[]⟩, .bool false, .string ⟨#[]⟩, .string ⟨#[]⟩, .bool false, .string ⟨#[]⟩, .string ⟨#[]⟩, .bool false, .string ⟨#[]⟩, .string ⟨#[]⟩, .bool false, .string ⟨#[]⟩, .string ⟨#[]⟩, .bool false, .string ⟨#[]⟩, .string ⟨#[]⟩], .int .i64 4]) ∧ Below w.heap.size w w' := by
  have H := Lib.hid (Hp.start hT)
  clear hT
  have Sa1 : Hid (SmO a1) := SzO.sm Za1 (by omega)
  have Sb1 : Hid (SmO b1) := SzO.sm Zb1 (by omega)
  have Sa2 : Hid (SmO a2) := SzO.sm Za2 (by omega)
  have Sb2 : Hid (SmO b2) := SzO.sm Zb2 (by omega)
  have Sa3 : Hid (SmO a3) := SzO.sm Za3 (by omega)
  have Sb3 : Hid (SmO b3) := SzO.sm Zb3 (by omega)
  have Sc1 : Hid (SmO c1) := SzO.sm Zc1 (by omega)
  have Sd1 : Hid (SmO d1) := SzO.sm Zd1 (by omega)
  have Sc2 : Hid (SmO c2) := SzO.sm Zc2 (by omega)
  have Sd2 : Hid (SmO d2) := SzO.sm Zd2 (by omega)
  have Sc3 : Hid (SmO c3) := SzO.sm Zc3 (by omega)
  have Sd3 : Hid (SmO d3) := SzO.sm Zd3 (by omega)
  go_enter Tryd.func12, Tryd.ntmps12
  go_wp2_with (first
      | ((with_reducible refine isLoad ?_); refine ldA H ?_)
      | ((with_reducible refine isBox ?_); refine bxA H ?_; clear H; intro _ _ H)
      | ((with_reducible refine isAlloc ?_); refine alA H ?_; clear H; intro _ _ H))
  refine (meetS_any a1 b1 c1 d1 u1 v1 true _ (by omega) Za1 Zb1 Zc1 Zd1 Eu1 Ev1 G1 H.out.tb).mono ?_
  rintro _ _ ⟨rfl, hb⟩
  replace H := Lib.hid (H.out.go hb)
  clear hb
  go_wp2_with (first
      | ((with_reducible refine isLoad ?_); refine ldA H ?_)
      | ((with_reducible refine isStore ?_); refine stA H ?_; clear H; intro _ H)
      | ((with_reducible refine isAlloc ?_); refine alA H ?_; clear H; intro _ _ H))
  refine (meetS_any a2 b2 c2 d2 u2 v2 true _ (by omega) Za2 Zb2 Zc2 Zd2 Eu2 Ev2 G2 H.out.tb).mono ?_
  rintro _ _ ⟨rfl, hb⟩
  replace H := Lib.hid (H.out.go hb)
  clear hb
  go_wp2_with (first
      | ((with_reducible refine isLoad ?_); refine ldA H ?_)
      | ((with_reducible refine isStore ?_); refine stA H ?_; clear H; intro _ H)
      | ((with_reducible refine isAlloc ?_); refine alA H ?_; clear H; intro _ _ H))
  refine (meetS_any a3 b3 c3 d3 u3 v3 false _ (by omega) Za3 Zb3 Zc3 Zd3 Eu3 Ev3 G3 H.out.tb).mono ?_
  rintro _ _ ⟨rfl, hb⟩
  replace H := Lib.hid (H.out.go hb)
  clear hb
  go_wp2_with (first
      | ((with_reducible refine isStore ?_); refine stA H ?_; clear H; intro _ H)
      | ((with_reducible refine isAlloc ?_); refine alA H ?_; clear H; intro _ _ H))
  exact bodyPost_ret (results_Hv H Tryd.results12 (by (first | exact rRat | exact rSpan | exact rPose | exact rFrame | exact rVec | exact rTurn | exact rBox)) rfl (by (repeat (first | exact List.Mem.head _ | refine List.Mem.tail _ ?_ | assumption))) (by rfl) (by rfl)) rfl ⟨rfl, H.out.bel⟩
end Go.Proofs.YtolekonocbeekaaDoor

namespace Go.Proofs.YtolekonocbeekaaDoor
open Go.RowKit
set_option linter.unusedVariables false
set_option maxRecDepth 100000

def lgS (a b : Option Rat) : Rat := (nmS a b).2 - (nmS a b).1
theorem Sz.lg {k : Nat} {a b : Option Rat} (ha : SzO k a) (hb : SzO k b) : Sz (4 * k + 4) (lgS a b) := (Sz.sub (szNm2 ha hb rfl) (szNm1 ha hb rfl)).mono (by omega)
set_option maxHeartbeats 4000000 in
theorem Width_any {k : Nat} (a1 : Option Rat) (b1 : Option Rat) (a2 : Option Rat) (b2 : Option Rat) (a3 : Option Rat) (b3 : Option Rat) (l3 : Rat) (m : Rat) (w : World) (hk : k ≤ 200) (Za1 : Hid (SzO k a1)) (Zb1 : Hid (SzO k b1)) (Za2 : Hid (SzO k a2)) (Zb2 : Hid (SzO k b2)) (Za3 : Hid (SzO k a3)) (Zb3 : Hid (SzO k b3)) (El3 : Hid (lgS a3 b3 = l3)) (Fm : Hid (mx (lgS a1 b1) (lgS a2 b2) = m)) (hT : Tb w) :
    Calls Tryd.prog 22 #[.agg #[.bool (sgO a1), .string (nuO a1), .string (deO a1), .bool (sgO b1), .string (nuO b1), .string (deO b1), .bool (sgO a2), .string (nuO a2), .string (deO a2), .bool (sgO b2), .string (nuO b2), .string (deO b2), .bool (sgO a3), .string (nuO a3), .string (deO a3), .bool (sgO b3), .string (nuO b3), .string (deO b3)]] w fun e w' => e = .returned (.tuple #[.agg #[.bool (sgO (some m)), .string (nuO (some m)), .string (deO (some m))], .agg #[.bool (sgO (some l3)), .string (nuO (some l3)), .string (deO (some l3))]]) ∧ Below w.heap.size w w' := by
  have H := Lib.hid (Hp.start hT)
  clear hT
  have Sa1 : Hid (SmO a1) := SzO.sm Za1 (by omega)
  have Sb1 : Hid (SmO b1) := SzO.sm Zb1 (by omega)
  have Sa2 : Hid (SmO a2) := SzO.sm Za2 (by omega)
  have Sb2 : Hid (SmO b2) := SzO.sm Zb2 (by omega)
  have Sa3 : Hid (SmO a3) := SzO.sm Za3 (by omega)
  have Sb3 : Hid (SmO b3) := SzO.sm Zb3 (by omega)
  obtain ⟨l1, El1⟩ : ∃ z : Rat, Hid (lgS a1 b1 = z) := ⟨_, rfl⟩
  have Zl1 : Hid (Sz (4 * k + 4) l1) := szEq El1 (Sz.lg Za1 Zb1)
  have Sl1 : Hid (SmO (some l1)) := Sz.o Zl1 (by omega)
  obtain ⟨l2, El2⟩ : ∃ z : Rat, Hid (lgS a2 b2 = z) := ⟨_, rfl⟩
  have Zl2 : Hid (Sz (4 * k + 4) l2) := szEq El2 (Sz.lg Za2 Zb2)
  have Sl2 : Hid (SmO (some l2)) := Sz.o Zl2 (by omega)
  have Zl3 : Hid (Sz (4 * k + 4) l3) := szEq El3 (Sz.lg Za3 Zb3)
  have Sl3 : Hid (SmO (some l3)) := Sz.o Zl3 (by omega)
  have Em : Hid (mx l1 l2 = m) := by have h0 := Fm.out; have h1 := El1.out; have h2 := El2.out; subst_vars; rfl
  have Zm : Hid (Sz ((4 * k + 4) + (4 * k + 4)) m) := szEq Em (Sz.mx Zl1 Zl2)
  have Sm : Hid (SmO (some m)) := Sz.o Zm (by omega)
  go_enter Tryd.func22, Tryd.ntmps22
  go_wp2_with (first
      | ((with_reducible refine isBox ?_); refine bxA H ?_; clear H; intro _ _ H)
      | ((with_reducible refine isAlloc ?_); refine alA H ?_; clear H; intro _ _ H))
  refine wp_region_T 10 H (by kernel_rfl) (by kernel_rfl) ?_
  simp only [List.take_succ_cons, List.take_zero, List.drop_succ_cons, List.drop_zero]
  repeat (first
      | ((with_reducible refine kLoad ?_); refine kldA H ?_)
      | ((fail_if_success (with_reducible refine kCall ?_)); (with_reducible refine kCons ?_); refine wpK_step (fun K hK => ?_); go_simp; refine hK _ ?_; clear hK K))
  refine wpK_step (fun K hK => ?_)
  go_simp
  apply Exists.intro
  refine ⟨fun sx => ?_, hK _ ?_⟩
  · go_at_call 58
    exact seeLong_any a1 b1 _ _ l1 _ Sa1 Sb1 rfl El1 (H.out.tbx sx)
  clear hK K
  repeat (first
      | ((with_reducible refine kLoad ?_); refine kldA H ?_)
      | ((fail_if_success (with_reducible refine kCall ?_)); (with_reducible refine kCons ?_); refine wpK_step (fun K hK => ?_); go_simp; refine hK _ ?_; clear hK K))
  refine wpK_step (fun K hK => ?_)
  go_simp
  apply Exists.intro
  refine ⟨fun sx => ?_, hK _ ?_⟩
  · go_at_call 58
    exact seeLong_any a2 b2 _ _ l2 _ Sa2 Sb2 rfl El2 (H.out.tbx sx)
  clear hK K
  refine wpK_step (fun K hK => ?_)
  go_simp
  apply Exists.intro
  refine ⟨fun sx => ?_, hK _ ?_⟩
  · go_at_call 57
    exact RMax_any (some l1) (some l2) m _ Sl1 Sl2 Em (H.out.tbx sx)
  clear hK K
  repeat (first
      | ((with_reducible refine kLoad ?_); refine kldA H ?_)
      | ((fail_if_success (with_reducible refine kCall ?_)); (with_reducible refine kCons ?_); refine wpK_step (fun K hK => ?_); go_simp; refine hK _ ?_; clear hK K))
  refine wpK_step (fun K hK => ?_)
  go_simp
  apply Exists.intro
  refine ⟨fun sx => ?_, hK _ ?_⟩
  · go_at_call 58
    exact seeLong_any a3 b3 _ _ l3 _ Sa3 Sb3 rfl El3 (H.out.tbx sx)
  clear hK K
  refine wpKeep_nil ?_
  clear H
  intro _ H
  go_wp2_with (first
      | ((with_reducible refine isStore ?_); refine stA H ?_; clear H; intro _ H))
  exact bodyPost_ret (results_HH H Tryd.results22 (by (first | exact rRat | exact rSpan | exact rPose | exact rFrame | exact rVec | exact rTurn | exact rBox)) (by (first | exact rRat | exact rSpan | exact rPose | exact rFrame | exact rVec | exact rTurn | exact rBox)) rfl (by (repeat (first | exact List.Mem.head _ | refine List.Mem.tail _ ?_ | assumption))) rfl (by (repeat (first | exact List.Mem.head _ | refine List.Mem.tail _ ?_ | assumption))) (by rfl) (by rfl)) rfl ⟨rfl, H.out.bel⟩
end Go.Proofs.YtolekonocbeekaaDoor

namespace Go.Proofs.YtolekonocbeekaaDoor
open Go.RowKit
set_option linter.unusedVariables false
set_option maxRecDepth 100000

/-- The numbers of a slice, cell by cell. -/
def ratC : List Rat → List Value
  | [] => []
  | y :: l => .bool (sgO (some y)) :: .string (nuO (some y)) :: .string (deO (some y)) :: ratC l
theorem ratC_len : ∀ l : List Rat, (ratC l).length = 3 * l.length
  | [] => rfl
  | y :: l => by
    have := ratC_len l
    simp only [ratC, List.length_cons]
    omega
theorem ratC_at : ∀ {l : List Rat} {i : Nat} {y : Rat}, l[i]? = some y → ((ratC l).drop (3 * i)).take 3 = [.bool (sgO (some y)), .string (nuO (some y)), .string (deO (some y))]
  | [], i, y, h => by simp at h
  | x :: l, 0, y, h => by
    have e : x = y := by simpa using h
    subst e
    rfl
  | x :: l, i + 1, y, h => by
    have h2 : l[i]? = some y := by simpa using h
    rw [show 3 * (i + 1) = 3 * i + 1 + 1 + 1 by omega]
    exact ratC_at h2
def arL (x : Rat) (l : List Rat) : Rat := l.foldl mn x
def arH (x : Rat) (l : List Rat) : Rat := l.foldl mx x
theorem ar_snoc {x y : Rat} {l : List Rat} {j : Nat} (h : l[j]? = some y) : arL x (l.take (j + 1)) = mn (arL x (l.take j)) y ∧ arH x (l.take (j + 1)) = mx (arH x (l.take j)) y := by
  obtain ⟨hj, rfl⟩ := List.getElem?_eq_some_iff.1 h
  rw [List.take_succ_eq_append_getElem hj]
  unfold arL arH
  rw [List.foldl_append, List.foldl_append]
  exact ⟨rfl, rfl⟩
theorem sz_ar {k : Nat} : ∀ {l : List Rat} {x : Rat}, (∀ y ∈ x :: l, Sz k y) → Sz k (arL x l) ∧ Sz k (arH x l)
  | [], x, h => ⟨h x (.head _), h x (.head _)⟩
  | y :: l, x, h => by
    have hx := h x (.head _)
    have hy := h y (.tail _ (.head _))
    exact ⟨(sz_ar (l := l) (x := mn x y) (fun z hz => by
      rcases List.mem_cons.1 hz with rfl | hz
      · exact Sz.ite hx hy
      · exact h z (.tail _ (.tail _ hz)))).1, (sz_ar (l := l) (x := mx x y) (fun z hz => by
      rcases List.mem_cons.1 hz with rfl | hz
      · exact Sz.ite hx hy
      · exact h z (.tail _ (.tail _ hz)))).2⟩
/-- A load out of the slice's block, which is not the call's own. -/
theorem wpList_loadX {P : Program} {ops : Array Oper} {rest : List Oper} {o : Oper} {a : Act} {w0 w : World} {l : Ents} {Q : Exit → Act → World → Prop} (H : Hid (Hp w0 w l)) {b : Nat} {T t : TypeId} {ys : List Rat} (X : Hid (Blk w0 b T (ratC ys).toArray)) (i : Nat) {y : Rat} (hy : Hid (ys[i]? = some y))
    {p : Operand} {j : Nat} (ho : o.op = .load t p) (hg : Region.wanted o (yielded ops a.tmps) = true) (hT : RowT P t 3) (hp : a.eval p = .pointer (some ⟨b, j, none⟩)) (hj : j = 3 * i)
    (hK : wpList P ops Q rest (a.put o.dst (.agg #[.bool (sgO (some y)), .string (nuO (some y)), .string (deO (some y))])) w) : wpList P ops Q (o :: rest) a w :=
  wpList_loadB ho hg hT hp (Lib.hid (X.out.below H.out.bel X.out.lt)) (by subst hj; simpa using ratC_at hy.out) rfl hK
end Go.Proofs.YtolekonocbeekaaDoor

namespace Go.Proofs.YtolekonocbeekaaDoor
open Go.RowKit
set_option linter.unusedVariables false
set_option maxRecDepth 100000

set_option maxHeartbeats 4000000 in
theorem around_any {k : Nat} (x0 : Rat) (xs : List Rat) (n b : Nat) (T : TypeId) (lo hi : Rat) (w : World) (hk : k ≤ 3000) (hn0 : ¬ n = 0) (hn9 : n < 1000000) (N : Hid (xs.length = n)) (Z : Hid (∀ y ∈ x0 :: xs, Sz k y)) (X : Hid (Blk w b T (ratC (x0 :: xs)).toArray)) (F1 : Hid (arL x0 xs = lo)) (F2 : Hid (arH x0 xs = hi)) (hT : Tb w) :
    Calls Tryd.prog 107 #[.slice (some ⟨b, 0, none⟩) (n + 1) (n + 1)] w fun e w' => e = .returned (.agg #[.bool (sgO (some lo)), .string (nuO (some lo)), .string (deO (some lo)), .bool (sgO (some hi)), .string (nuO (some hi)), .string (deO (some hi))]) ∧ Below w.heap.size w w' := by
  have H := Lib.hid (Hp.start hT)
  clear hT
  have Y0 : Hid ((x0 :: xs)[0]? = some x0) := rfl
  have S0 : Hid (SmO (some x0)) := Sz.o (Z.out x0 (.head _)) (by omega)
  have E0 : Hid (valO (some x0) = x0) := rfl
  go_enter Tryd.func107, Tryd.ntmps107
  go_wp2_with (first
      | ((with_reducible refine isLoad ?_); refine wpList_loadX H X 0 Y0 rfl (by (first | exact wanted_none rfl | exact wanted_some rfl rfl)) (by exact rRat) (by rfl) (by omega) ?_; (simp only [Act.put, List.setIfInBounds_toArray, List.set_cons_succ, List.set_cons_zero]))
      | ((with_reducible refine isAlloc ?_); refine alA H ?_; clear H; intro _ _ H))
  refine (spanOf_any (some x0) x0 _ S0 E0 H.out.tb).mono ?_
  rintro _ _ ⟨rfl, hb⟩
  replace H := Lib.hid (H.out.go hb)
  clear hb
  go_wp2_with (first
      | ((with_reducible refine isStore ?_); refine stA H ?_; clear H; intro _ H)
      | ((with_reducible refine isAlloc ?_); refine alA H ?_; clear H; intro _ _ H))
  rename_i b2 W2 w2 b3 W3 W4 K3 hK3
  go_loopw [13] (fun i wr => ∃ (j : Nat) (p q : Rat), i = .int .i64 j ∧ j ≤ n ∧ Hid (arL x0 (xs.take j) = p) ∧ Hid (arH x0 (xs.take j) = q) ∧ Hid (Hp w wr [(b3, 26, [.bool (sgO (some p)), .string (nuO (some p)), .string (deO (some p)), .bool (sgO (some q)), .string (nuO (some q)), .string (deO (some q))]), (b2, 26, [.bool false, .string ⟨#[]⟩, .string ⟨#[]⟩, .bool false, .string ⟨#[]⟩, .string ⟨#[]⟩])])) (fun i _ => n - (intOf i).toNat)
  case atStart => exact ⟨0, x0, x0, rfl, by omega, rfl, rfl, H⟩
  case round =>
    clear H
    obtain ⟨j, p, q, rfl, hj, P1, P2, H⟩ := hrel
    have ZP : Hid (Sz k p ∧ Sz k q) := by
      rw [← P1.out, ← P2.out]
      refine sz_ar fun y hy => Z.out y ?_
      rcases List.mem_cons.1 hy with rfl | hy
      · exact .head _
      · exact .tail _ (List.mem_of_mem_take hy)
    by_cases hlt : j < n
    · obtain ⟨y, hy⟩ : ∃ y, xs[j]? = some y := ⟨_, List.getElem?_eq_getElem (by rw [N.out]; exact hlt)⟩
      have Yj : Hid ((x0 :: xs)[j + 1]? = some y) := hy
      have Zy : Hid (Sz k y) := Z.out y (.tail _ (List.mem_of_getElem? hy))
      have Sy : Hid (SmO (some y)) := Sz.o Zy (by omega)
      have Sp : Hid (SmO (some p)) := Sz.o ZP.out.1 (by omega)
      have Sq : Hid (SmO (some q)) := Sz.o ZP.out.2 (by omega)
      obtain ⟨p2, Ep⟩ : ∃ z, Hid (mn p y = z) := ⟨_, rfl⟩
      obtain ⟨q2, Eq⟩ : ∃ z, Hid (mx q y = z) := ⟨_, rfl⟩
      have P3 : Hid (arL x0 (xs.take (j + 1)) = p2) := by unfold Hid; rw [(ar_snoc hy).1, P1.out, Ep.out]
      have P4 : Hid (arH x0 (xs.take (j + 1)) = q2) := by unfold Hid; rw [(ar_snoc hy).2, P2.out, Eq.out]
      clear hy
      go_wp2_with (first
          | ((with_reducible refine isLoad ?_); refine wpList_loadX H X (j + 1) Yj rfl (by (first | exact wanted_none rfl | exact wanted_some rfl rfl)) (by exact rRat) (by rfl) (by omega) ?_; (simp only [Act.put, List.setIfInBounds_toArray, List.set_cons_succ, List.set_cons_zero]))
          | ((with_reducible refine isStore ?_); refine stA H ?_; clear H; intro _ H)
          | ((with_reducible refine isAlloc ?_); refine alA H ?_; clear H; intro _ _ H))
      refine wp_region_T 9 H (by kernel_rfl) (by kernel_rfl) ?_
      simp only [List.take_succ_cons, List.take_zero, List.drop_succ_cons, List.drop_zero]
      repeat (first
          | ((with_reducible refine kLoad ?_); refine kldA H ?_)
          | ((fail_if_success (with_reducible refine kCall ?_)); (with_reducible refine kCons ?_); refine wpK_step (fun K hK => ?_); go_simp; refine hK _ ?_; clear hK K))
      refine wpK_step (fun K hK => ?_)
      go_simp
      apply Exists.intro
      refine ⟨fun sx => ?_, hK _ ?_⟩
      · go_at_call 65
        exact RMin_any (some p) (some y) p2 _ Sp Sy Ep (H.out.tbx sx)
      clear hK K
      repeat (first
          | ((with_reducible refine kLoad ?_); refine kldA H ?_)
          | ((fail_if_success (with_reducible refine kCall ?_)); (with_reducible refine kCons ?_); refine wpK_step (fun K hK => ?_); go_simp; refine hK _ ?_; clear hK K))
      refine wpK_step (fun K hK => ?_)
      go_simp
      apply Exists.intro
      refine ⟨fun sx => ?_, hK _ ?_⟩
      · go_at_call 57
        exact RMax_any (some q) (some y) q2 _ Sq Sy Eq (H.out.tbx sx)
      clear hK K
      repeat (first
          | ((fail_if_success (with_reducible refine kCall ?_)); (with_reducible refine kCons ?_); refine wpK_step (fun K hK => ?_); go_simp; refine hK _ ?_; clear hK K))
      refine wpKeep_nil ?_
      clear H
      intro _ H
      go_wp2_with (first
          | ((with_reducible refine isStore ?_); refine stA H ?_; clear H; intro _ H))
      replace H := Lib.hid H.out.drop
      go_roundw
      case rel => exact ⟨j + 1, p2, q2, by go_num, by omega, P3, P4, H⟩
      case measure => simp [intOf]; omega
    · have hjn : j = n := by omega
      subst hjn
      have e1 : p = lo := by rw [← P1.out, ← F1.out, List.take_of_length_le (by rw [N.out]; omega)]
      have e2 : q = hi := by rw [← P2.out, ← F2.out, List.take_of_length_le (by rw [N.out]; omega)]
      subst e1
      subst e2
      clear hlt
      go_wp2_with (first
          | ((with_reducible refine isLoad ?_); refine ldA H ?_)
          | ((with_reducible refine isStore ?_); refine stA H ?_; clear H; intro _ H))
      exact bodyPost_ret (results_H H Tryd.results107 (by (first | exact rRat | exact rSpan | exact rPose | exact rFrame | exact rVec | exact rTurn | exact rBox)) rfl (by (repeat (first | exact List.Mem.head _ | refine List.Mem.tail _ ?_ | assumption))) (by rfl)) rfl ⟨rfl, H.out.bel⟩
end Go.Proofs.YtolekonocbeekaaDoor

namespace Go.Proofs.YtolekonocbeekaaDoor
open Go.RowKit
set_option linter.unusedVariables false
set_option maxRecDepth 100000

section
variable {P : Program} {ops : Array Oper} {rest : List Oper} {o : Oper} {a : Act} {w0 w : World} {l : Ents} {Q : Exit → Act → World → Prop}
theorem wpList_newV {t : TypeId} {d : Tmp} {cs : List Value} (mk : Nat → Value) (hg : o.guard = none) (hd : o.dst = some d)
    (hr : ∀ W : World, (execOp a.eval o).run P W = .ok (.value (mk W.heap.size)) (W.alloc (.cells cs.toArray t)))
    (hK : ∀ (b : Nat) W', w.heap.size ≤ b → Below w.heap.size w W' → Hid (Blk W' b t cs.toArray) → wpList P ops Q rest (a.put (some d) (mk b)) W') : wpList P ops Q (o :: rest) a w := by
  unfold wpList
  rw [if_pos (by simp [Region.wanted, hg])]
  refine .inl ?_
  unfold Oper.wp
  rw [hr, Oper.upon_value, hd]
  exact hK _ _ (Nat.le_refl _) ((Below.refl w.heap.size w).alloc (Nat.le_refl _) _) (Lib.hid (Blk.new w t cs.toArray))
theorem isSlice {d : Option Tmp} {ty : TypeId} {po : String} {af : Array Edge} {g : Option (Nat × Bool)} {t : TypeId} {n : Nat} {ps : Array (Nat × Operand)} (h : wpList P ops Q (⟨d, .buildSlice t n ps, ty, po, af, g⟩ :: rest) a w) : wpList P ops Q (⟨d, .buildSlice t n ps, ty, po, af, g⟩ :: rest) a w := h
theorem wpList_sliceH (H : Hid (Hp w0 w l)) (T : TypeId) (cs : List Value) (n : Nat) {d : Tmp} (hg : o.guard = none) (hd : o.dst = some d)
    (hr : ∀ W : World, (execOp a.eval o).run P W = .ok (.value (.slice (some ⟨W.heap.size, 0, none⟩) n n)) (W.alloc (.cells cs.toArray T)))
    (hK : ∀ (b : Nat) W', Hid (Hp w0 W' ((b, T, cs) :: l)) → wpList P ops Q rest (a.put (some d) (.slice (some ⟨b, 0, none⟩) n n)) W') : wpList P ops Q (o :: rest) a w :=
  wpList_newV (fun b => .slice (some ⟨b, 0, none⟩) n n) hg hd hr fun b W' h1 h2 h3 => hK b W' (H.out.fresh h2 h1 h3.out)
end
end Go.Proofs.YtolekonocbeekaaDoor

namespace Go.Proofs.YtolekonocbeekaaDoor
open Go.RowKit
set_option linter.unusedVariables false

/-- What a stream still holds: where, how many cells, which numbers. -/
structure Sd where
  A : Option Addr
  c : Nat
  xs : List Int
def Sd.v (S : Sd) : Value := .slice S.A S.xs.length S.c
def Sd.nx (S : Sd) (n : Int) : Int := match S.xs with
  | [] => 0
  | x :: _ => x % n
def Sd.sn (S : Sd) : Sd := match S.xs with
  | [] => S
  | x :: xs => ⟨if S.c = 1 then S.A else S.A.map (fun p => ⟨p.block, p.off + 1, none⟩), S.c - 1, xs⟩
/-- The numbers lie in what was there before the call. -/
structure Sd.ok (S : Sd) (w0 : World) : Prop where
  le : S.xs.length ≤ S.c
  mx : S.c ≤ maxLen
  at_ : 0 < S.xs.length → ∃ b' o, S.A = some ⟨b', o, none⟩ ∧ b' < w0.heap.size ∧ ∀ (j : Nat) (x : Int), S.xs[j]? = some x → w0.cell? ⟨b', o + j, none⟩ = some (.int .i64 x)
  rg : ∀ x ∈ S.xs, -9223372036854775808 ≤ x ∧ x ≤ 9223372036854775807
theorem Sd.ok.next {S : Sd} {w0 : World} (h : S.ok w0) : S.sn.ok w0 := by
  obtain ⟨A, c, xs⟩ := S
  rcases xs with _ | ⟨x, xs⟩
  · exact h
  · have h1 : xs.length + 1 ≤ c := h.le
    have h2 : c ≤ maxLen := h.mx
    refine ⟨?_, ?_, fun hp => ?_, fun y hy => h.rg y (List.mem_cons_of_mem _ hy)⟩
    · show xs.length ≤ c - 1
      omega
    · show c - 1 ≤ maxLen
      omega
    · obtain ⟨b', o, hA, hb, hc⟩ := h.at_ (by simp)
      have hA' : A = some ⟨b', o, none⟩ := hA
      have hp' : 0 < xs.length := hp
      refine ⟨b', o + 1, ?_, hb, fun j y hj => ?_⟩
      · show (if c = 1 then A else A.map _) = _
        rw [if_neg (by omega), hA']
        rfl
      · have hj' : xs[j]? = some y := hj
        have := hc (j + 1) y (by simpa using hj')
        rwa [show o + 1 + j = o + (j + 1) by omega]
theorem Sd.nx_bd (S : Sd) (n : Int) (h : 1 ≤ n) : 0 ≤ S.nx n ∧ S.nx n < n := by
  unfold Sd.nx
  split
  · omega
  · exact ⟨Int.emod_nonneg _ (by omega), Int.emod_lt_of_pos _ (by omega)⟩
theorem Sd.of_arg {w w0 : World} {A : Option Addr} {n c : Nat} {xs : List Int} (h : IntArg w0 A n c xs) : (⟨A, c, xs⟩ : Sd).ok w0 := by
  obtain ⟨rfl, h2, h3, h4, h5⟩ := h
  exact ⟨h2, h3, fun hp => h4 hp, h5⟩
theorem Upd.same_aux {l l' : Ents} {z : Nat} {T : TypeId} {cs ds : List Value} (h : Upd l z T cs ds l') : cs = ds → l' = l := by
  induction h with
  | head => intro hd; rw [hd]
  | tail h ih => intro hd; rw [ih hd]
theorem Upd.same {l l' : Ents} {z : Nat} {T : TypeId} {cs : List Value} (h : Upd l z T cs cs l') : l' = l := h.same_aux rfl
theorem Hp.set1 {w0 w : World} {l l' : Ents} {b : Nat} {T : TypeId} {u v : Value} (h : Hp w0 w l) (hu : Upd l b T [u] [v] l') : Hp w0 (w.setCell ⟨b, 0, none⟩ v) l' := by
  have hb := (h.blk _ hu.mem).2
  exact h.stored hu ⟨(Below.refl 0 w).setCell (Nat.zero_le _) v, fun k _ hk => Below.heap_setCell w ⟨b, 0, none⟩ v k hk⟩ (by have := hb.set_ 0 v; simpa using this)

set_option maxHeartbeats 400000 in
theorem nextH_any {w0 w : World} {m m' : Ents} (S : Sd) (b : Nat) (n : Int) (H : Hid (Hp w0 w m)) (hS : Hid (S.ok w0)) (hu : Hid (Upd m b 80 [S.v] [S.sn.v] m')) (h1 : 1 ≤ n) (h3 : n ≤ 9223372036854775807) :
    Calls Tryd.prog 44 #[.pointer (some ⟨b, 0, none⟩), .int .i64 n] w fun e w' => e = .returned (.int .i64 (S.nx n)) ∧ Hp w0 w' m' := by
  have hB : Blk w b 80 #[S.v] := (H.out.blk _ hu.out.mem).2
  have hc := hB.cell 0
  have hfz := hB.frozen 0
  obtain ⟨A, c, xs⟩ := S
  rcases xs with _ | ⟨x, xs⟩
  · simp only [Sd.v, List.length_nil] at hc
    clear hB
    go_enter Tryd.func44, Tryd.ntmps44
    go_wp2
    go_ret
    have e := hu.out.same
    subst e
    exact ⟨rfl, H.out⟩
  · obtain ⟨b', o, hA, hb', hcell⟩ := hS.out.at_ (by simp)
    have hA' : A = some ⟨b', o, none⟩ := hA
    subst hA'
    have hcw : w.cell? ⟨b', o, none⟩ = some (.int .i64 x) := by
      rw [H.out.bel.cell (p := ⟨b', o, none⟩) hb']
      exact hcell 0 x (by simp)
    have hxb := hS.out.rg x (by simp)
    have hl' : xs.length + 1 ≤ c := hS.out.le
    have hm : c ≤ maxLen := hS.out.mx
    obtain ⟨hx1, hx2⟩ := hxb
    have Hset := Lib.hid (H.out.set1 hu.out)
    clear hcell hS hu H hA
    simp only [Sd.v, List.length_cons] at hc
    have hd : decide (n < 1) = false := by simp; omega
    have HB := Lib.hid hB; clear hB
    generalize hk : xs.length = k at *
    have Hk := Lib.hid hk; clear hk
    go_enter Tryd.func44, Tryd.ntmps44
    go_wp2_with (go_at_call 18; refine (below_any _ _ _ (by omega) hx1 hx2 (by omega)).mono ?_; rintro e w' ⟨rfl, rfl⟩)
    all_goals
      go_ret
      refine ⟨rfl, ?_⟩
      have h := Hset.out
      simp only [Sd.sn, Sd.v] at h
      first | (rw [if_neg (by omega)] at h; rw [Hk.out] at h; exact h) | (have hc1 : c = 1 := (by omega); subst hc1; rw [Hk.out] at h; simpa using h)
/-- gantmake.Of as a rational. -/
def ofQ (num : Int) (den : Nat) : Rat := mkRat num den
theorem ofQ_mkR (num : Int) (den : Nat) : ofQ num den = mkR (decide (num < 0)) num.natAbs den := by
  unfold ofQ mkR
  congr 1
  by_cases h : num < 0
  · simp [h]; omega
  · simp [h]; omega
theorem ratOf_q (num : Int) (den : Nat) (hd : 0 < den) : ratOf num den = #[.bool (sgO (some (ofQ num den))), .string (nuO (some (ofQ num den))), .string (deO (some (ofQ num den)))] := by
  unfold ratOf
  by_cases h0 : num = 0
  · subst h0
    have e : ofQ 0 den = 0 := by unfold ofQ; simp
    rw [e]
    simp [sgO, nuO, deO, nS, Nat.div_self hd]
  · obtain ⟨c1, c2, c3⟩ := mkR_cells (neg := decide (num < 0)) (n := num.natAbs) (d := den) (by omega) hd rfl
    rw [← ofQ_mkR] at c1 c2 c3
    rw [c1, c2, c3]
    rfl
theorem ofQ_sz (num : Int) (den k : Nat) (h1 : num.natAbs < 256 ^ k) (h2 : den < 256 ^ k) (hd : 0 < den) : Sz k (ofQ num den) := by
  rw [ofQ_mkR]
  have h := mkR_le (decide (num < 0)) (n := num.natAbs) hd
  exact ⟨Nat.lt_of_le_of_lt h.1 h1, Nat.lt_of_le_of_lt h.2 h2⟩
theorem ofQ_any (num : Int) (den : Nat) (q : Rat) (w : World) (h1 : -1000000000 ≤ num) (h2 : num ≤ 1000000000) (h3 : 0 < den) (h4 : den ≤ 1000000000) (E : Hid (ofQ num den = q)) :
    Calls Tryd.prog 17 #[.int .i64 num, .int .i64 den] w fun e w' => e = .returned (.agg #[.bool (sgO (some q)), .string (nuO (some q)), .string (deO (some q))]) ∧ Below w.heap.size w w' := by
  have h := of_any num den w (by omega) (by omega) h3 (by omega)
  rw [ratOf_q num den h3, E.out] at h
  exact h
end Go.Proofs.YtolekonocbeekaaDoor

namespace Go.Proofs.YtolekonocbeekaaDoor
open Go.RowKit
set_option linter.unusedVariables false
set_option maxRecDepth 100000

theorem kStm : ∃ d, Tryd.prog.underlying 78 = some d ∧ d.isRow = false := ⟨_, Tryd.underlying78, rfl⟩
theorem sStm : (Tryd.prog.info? 78).map (·.size) = some 1 := by kernel_rfl
theorem Hp.ne {w0 w : World} {l : Ents} {x y : Nat × TypeId × List Value} (h : Hp w0 w (x :: l)) (hy : y ∈ l) : x.1 ≠ y.1 := fun e => by
  have := h.nd
  rw [List.map_cons, List.nodup_cons] at this
  exact this.1 (by rw [e]; exact List.mem_map.2 ⟨y, hy, rfl⟩)
theorem Hp.ne_t {w0 w : World} {l : Ents} {b c : Nat} {T U : TypeId} {cs ds : List Value} (h : Hp w0 w l) (hb : (b, T, cs) ∈ l) (hc : (c, U, ds) ∈ l) (hne : T ≠ U) : b ≠ c := fun e => by
  subst e
  have h1 : Blk w b T cs.toArray := (h.blk _ hb).2
  have h2 : Blk w b U ds.toArray := (h.blk _ hc).2
  unfold Blk at h1 h2
  rw [h1] at h2
  injection h2 with h2
  injection h2 with _ h2
  exact hne h2
theorem Upd.snd {l l1 l' : Ents} {z : Nat} {T : TypeId} {cs ds es : List Value} (h1 : Upd l z T cs ds l1) : Upd l z T cs es l' → (l.map (·.1)).Nodup → Upd l1 z T ds es l' := by
  induction h1 generalizing l' with
  | head =>
    intro h hn
    rw [List.map_cons, List.nodup_cons] at hn
    cases h with
    | head => exact .head
    | tail h => exact absurd (List.mem_map.2 ⟨_, h.mem, rfl⟩) hn.1
  | tail h1 ih =>
    intro h hn
    rw [List.map_cons, List.nodup_cons] at hn
    cases h with
    | head => exact absurd (List.mem_map.2 ⟨_, h1.mem, rfl⟩) hn.1
    | tail h => exact .tail (ih h hn.2)
/-- So many eighths of the way along a span. -/
def btQ (p q : Rat) (n : Int) : Rat := p + (q - p) * ((n : Rat) / ((8 : Int) : Rat))
theorem Sz.bt {k : Nat} {p q : Rat} {n : Int} (hp : Sz k p) (hq : Sz k q) (h1 : 0 ≤ n) (h2 : n ≤ 8) : Sz (3 * k + 8) (btQ p q n) :=
  (Sz.add hp (Sz.mul (Sz.sub hq hp) (Sz.div (Sz.int n (by omega)) (Sz.int 8 (by decide)) (by decide)))).mono (by omega)
end Go.Proofs.YtolekonocbeekaaDoor

namespace Go.Proofs.YtolekonocbeekaaDoor
open Go.RowKit
set_option linter.unusedVariables false
set_option maxRecDepth 100000

set_option maxHeartbeats 4000000 in
theorem between_any {k : Nat} (a : Option Rat) (b : Option Rat) (n : Int) (u : Rat) (w : World) (hk : k ≤ 200) (Za : Hid (SzO k a)) (Zb : Hid (SzO k b)) (h1 : 0 ≤ n) (h2 : n ≤ 8) (Fu : Hid (btQ (valO a) (valO b) n = u)) (hT : Tb w) :
    Calls Tryd.prog 46 #[.agg #[.bool (sgO a), .string (nuO a), .string (deO a), .bool (sgO b), .string (nuO b), .string (deO b)], .int .i64 n] w fun e w' => e = .returned (.agg #[.bool (sgO (some u)), .string (nuO (some u)), .string (deO (some u))]) ∧ Below w.heap.size w w' := by
  have H := Lib.hid (Hp.start hT)
  clear hT
  have Sa : Hid (SmO a) := SzO.sm Za (by omega)
  have Sb : Hid (SmO b) := SzO.sm Zb (by omega)
  obtain ⟨o, Eo⟩ : ∃ z : Rat, Hid ((n : Rat) = z) := ⟨_, rfl⟩
  have Zo : Hid (Sz 3 o) := szEq Eo (Sz.int n (by omega))
  have So : Hid (SmO (some o)) := Sz.o Zo (by omega)
  obtain ⟨e8, Ee8⟩ : ∃ z : Rat, Hid (((8 : Int) : Rat) = z) := ⟨_, rfl⟩
  have Ze8 : Hid (Sz 3 e8) := szEq Ee8 (Sz.int (8) (by decide))
  have Se8 : Hid (SmO (some e8)) := Sz.o Ze8 (by omega)
  have N8 : Hid (valO (some e8) ≠ 0) := by have h1 := Ee8.out; subst h1; show ((8 : Int) : Rat) ≠ 0; decide
  obtain ⟨d, Ed⟩ : ∃ z : Rat, Hid (o / e8 = z) := ⟨_, rfl⟩
  have Zd : Hid (Sz (3 + 3) d) := szEq Ed (Sz.div Zo Ze8 N8)
  have Sd : Hid (SmO (some d)) := Sz.o Zd (by omega)
  obtain ⟨s, Es⟩ : ∃ z : Rat, Hid ((valO b) - (valO a) = z) := ⟨_, rfl⟩
  have Zs : Hid (Sz (k + k + 1) s) := szEq Es (Sz.sub Zb Za)
  have Ss : Hid (SmO (some s)) := Sz.o Zs (by omega)
  obtain ⟨m, Em⟩ : ∃ z : Rat, Hid (s * d = z) := ⟨_, rfl⟩
  have Zm : Hid (Sz ((k + k + 1) + (3 + 3)) m) := szEq Em (Sz.mul Zs Zd)
  have Sm : Hid (SmO (some m)) := Sz.o Zm (by omega)
  have Eu : Hid ((valO a) + m = u) := by have h0 := Fu.out; have h1 := Eo.out; have h2 := Ee8.out; have h3 := Ed.out; have h4 := Es.out; have h5 := Em.out; subst_vars; rfl
  have Zu : Hid (Sz (k + ((k + k + 1) + (3 + 3)) + 1) u) := szEq Eu (Sz.add Za Zm)
  have Su : Hid (SmO (some u)) := Sz.o Zu (by omega)
  go_enter Tryd.func46, Tryd.ntmps46
  go_wp2_with (first
      | ((with_reducible refine isBox ?_); refine bxA H ?_; clear H; intro _ _ H)
      | ((with_reducible refine isAlloc ?_); refine alA H ?_; clear H; intro _ _ H))
  refine (ROf_any n o _ (by omega) (by omega) Eo H.out.tb).mono ?_
  rintro _ _ ⟨rfl, hb⟩
  replace H := Lib.hid (H.out.go hb)
  clear hb
  go_wp2_with (first
      | go_skip)
  refine (ROf_any (8) e8 _ (by decide) (by decide) Ee8 H.out.tb).mono ?_
  rintro _ _ ⟨rfl, hb⟩
  replace H := Lib.hid (H.out.go hb)
  clear hb
  go_wp2_with (first
      | go_skip)
  refine (RDiv_any (some o) (some e8) d _ So Se8 N8 Ed H.out.tb).mono ?_
  rintro _ _ ⟨rfl, hb⟩
  replace H := Lib.hid (H.out.go hb)
  clear hb
  go_wp2_with (first
      | ((with_reducible refine isStore ?_); refine stA H ?_; clear H; intro _ H)
      | ((with_reducible refine isAlloc ?_); refine alA H ?_; clear H; intro _ _ H))
  refine wp_region_T 10 H (by kernel_rfl) (by kernel_rfl) ?_
  simp only [List.take_succ_cons, List.take_zero, List.drop_succ_cons, List.drop_zero]
  repeat (first
      | ((with_reducible refine kLoad ?_); refine kldA H ?_)
      | ((fail_if_success (with_reducible refine kCall ?_)); (with_reducible refine kCons ?_); refine wpK_step (fun K hK => ?_); go_simp; refine hK _ ?_; clear hK K))
  refine wpK_step (fun K hK => ?_)
  go_simp
  apply Exists.intro
  refine ⟨fun sx => ?_, hK _ ?_⟩
  · go_at_call 19
    exact RSub_any b a s _ Sb Sa Es (H.out.tbx sx)
  clear hK K
  repeat (first
      | ((with_reducible refine kLoad ?_); refine kldA H ?_))
  refine wpK_step (fun K hK => ?_)
  go_simp
  apply Exists.intro
  refine ⟨fun sx => ?_, hK _ ?_⟩
  · go_at_call 86
    exact RMul_any (some s) (some d) m _ Ss Sd Em (H.out.tbx sx)
  clear hK K
  refine wpK_step (fun K hK => ?_)
  go_simp
  apply Exists.intro
  refine ⟨fun sx => ?_, hK _ ?_⟩
  · go_at_call 20
    exact RAdd_any a (some m) u _ Sa Sm Eu (H.out.tbx sx)
  clear hK K
  refine wpKeep_nil ?_
  clear H
  intro _ H
  go_wp2_with (first
      | ((with_reducible refine isStore ?_); refine stA H ?_; clear H; intro _ H))
  exact bodyPost_ret (results_H H Tryd.results46 (by (first | exact rRat | exact rSpan | exact rPose | exact rFrame | exact rVec | exact rTurn | exact rBox)) rfl (by (repeat (first | exact List.Mem.head _ | refine List.Mem.tail _ ?_ | assumption))) (by rfl)) rfl ⟨rfl, H.out.bel⟩
end Go.Proofs.YtolekonocbeekaaDoor

namespace Go.Proofs.YtolekonocbeekaaDoor
open Go.RowKit
set_option linter.unusedVariables false
set_option maxRecDepth 100000

set_option maxHeartbeats 4000000 in
theorem pose1_any {w0 w : World} {m m' : Ents} (S : Sd) (most : Int) (g c : Nat) (u v : Rat) (H : Hid (Hp w0 w m)) (h1 : 1 ≤ most) (h2 : most ≤ 1000) (Fu : Hid (ofQ (S.nx (2 * most + 1) - most) 4 = u)) (Fv : Hid (ofQ (S.nx (2 * most + 1) - most + S.sn.nx 7) 4 = v)) (hS : Hid (S.ok w0)) (hc : Hid ((c, 78, [.pointer (some ⟨g, 0, none⟩)]) ∈ m)) (hu : Hid (Upd m g 80 [S.v] [S.sn.sn.v] m')) :
    Calls Tryd.prog 43 #[.int .i64 most, .pointer (some ⟨c, 0, none⟩)] w fun e w' => e = .returned (.agg #[.bool (sgO (some u)), .string (nuO (some u)), .string (deO (some u)), .bool (sgO (some v)), .string (nuO (some v)), .string (deO (some v))]) ∧ Hp w0 w' m' := by
  obtain ⟨m1, hm1⟩ := upd_of_mem [S.sn.v] hu.out.mem
  have HM1 := Lib.hid hm1
  have HU2 := Lib.hid (hm1.snd hu.out H.out.nd)
  have HC1 := (hm1.keep hc.out (H.out.ne_t hc.out hu.out.mem (by decide)))
  have HG := HU2.out.mem
  have HU := HU2.out
  have hn := S.nx_bd (2 * most + 1) (by omega)
  have hn7 := S.sn.nx_bd 7 (by decide)
  have HS1 := Lib.hid hS.out.next
  have HC := hc.out
  have HM := HM1.out
  clear hm1 hc
  go_enter Tryd.func43, Tryd.ntmps43
  go_wp2_with (first
      | ((with_reducible refine isLoad ?_); refine ld1A H ?_)
      | ((with_reducible refine isAlloc ?_); refine alA H ?_; clear H; intro _ _ H))
  refine (nextH_any S g (2 * most + 1) H hS (by unfold Hid; (repeat (first | apply Upd.head | apply Upd.tail | assumption))) (by omega) (by omega)).mono ?_
  rintro _ _ ⟨rfl, H2⟩
  replace H := Lib.hid H2
  clear H2
  go_wp2_with (first
      | go_skip)
  have hw7 : IntKind.i64.wrap (S.nx (2 * most + 1) - most + S.sn.nx 7) = S.nx (2 * most + 1) - most + S.sn.nx 7 := IntWalk.i64_in _ (by omega)
  refine wp_region_V 8 [.p, .p, .p, .p, .s, .p, .p, .p] [(c, 78, [.pointer (some ⟨g, 0, none⟩)])] H (by intro x hx; simp only [List.mem_cons, List.not_mem_nil, or_false] at hx; subst hx <;> (repeat (first | exact List.Mem.head _ | refine List.Mem.tail _ ?_ | assumption))) (by simp) (by kernel_rfl) (by kernel_rfl) (by kernel_rfl) ?_
  simp only [List.take_succ_cons, List.take_zero, List.drop_succ_cons, List.drop_zero]
  refine wpV_P (by rfl) (by (first | exact wanted_none rfl | exact wanted_some rfl rfl)) (by intro W; first | (go_simp; rfl) | go_simp) ?_
  (simp only [Act.put, List.setIfInBounds_toArray, List.set_cons_succ, List.set_cons_zero])
  apply wpV_C (by rfl) (by (first | exact wanted_none rfl | exact wanted_some rfl rfl))
  · intro W hW
    unfold keepsAt
    go_simp
    go_at_call 17
    exact ofQ_any (S.nx (2 * most + 1) - most) 4 u _ (by omega) (by omega) (by decide) (by decide) Fu
  (simp only [Act.put, List.setIfInBounds_toArray, List.set_cons_succ, List.set_cons_zero])
  refine wpV_P (by rfl) (by (first | exact wanted_none rfl | exact wanted_some rfl rfl)) (by intro W; first | (go_simp; rfl) | go_simp) ?_
  (simp only [Act.put, List.setIfInBounds_toArray, List.set_cons_succ, List.set_cons_zero])
  refine wpV_load1 (by rfl) rfl (by (first | exact wanted_none rfl | exact wanted_some rfl rfl)) (by (first | exact kBool | exact kStr | exact kInt | exact kStm)) (by rfl) (by (repeat (first | exact List.Mem.head _ | refine List.Mem.tail _ ?_ | assumption))) (by rfl) ?_
  (simp only [Act.put, List.setIfInBounds_toArray, List.set_cons_succ, List.set_cons_zero])
  apply wpV_S (z := g) [S.sn.sn.v] (by rfl) (by (first | exact wanted_none rfl | exact wanted_some rfl rfl)) (by intro x hx; simp only [List.mem_cons, List.not_mem_nil, or_false] at hx; subst hx <;> exact H.out.ne_t (by (repeat (first | exact List.Mem.head _ | refine List.Mem.tail _ ?_ | assumption))) (by (repeat (first | exact List.Mem.head _ | refine List.Mem.tail _ ?_ | assumption))) (by decide)) (by (repeat (first | apply Upd.head | apply Upd.tail | assumption)))
  · intro m m2 W hW hs hu
    go_simp
    refine ⟨rfl, ?_⟩
    go_at_call 44
    exact nextH_any S.sn g 7 hW HS1 (Lib.hid hu) (by decide) (by decide)
  (simp only [Act.put, List.setIfInBounds_toArray, List.set_cons_succ, List.set_cons_zero])
  refine wpV_P (by rfl) (by (first | exact wanted_none rfl | exact wanted_some rfl rfl)) (by intro W; first | (go_simp; rfl) | go_simp) ?_
  (simp only [Act.put, List.setIfInBounds_toArray, List.set_cons_succ, List.set_cons_zero])
  apply wpV_C (by rfl) (by (first | exact wanted_none rfl | exact wanted_some rfl rfl))
  · intro W hW
    unfold keepsAt
    go_simp
    go_at_call 17
    exact ofQ_any (S.nx (2 * most + 1) - most + S.sn.nx 7) 4 v _ (by omega) (by omega) (by decide) (by decide) Fv
  (simp only [Act.put, List.setIfInBounds_toArray, List.set_cons_succ, List.set_cons_zero])
  refine wpV_P (by rfl) (by (first | exact wanted_none rfl | exact wanted_some rfl rfl)) (by intro W; first | (go_simp; rfl) | go_simp) ?_
  (simp only [Act.put, List.setIfInBounds_toArray, List.set_cons_succ, List.set_cons_zero])
  refine wpV_nil ?_
  clear H
  intro _ H
  go_wp2_with (first
      | ((with_reducible refine isStore ?_); refine stA H ?_; clear H; intro _ H))
  exact bodyPost_ret (results_H H Tryd.results43 (by (first | exact rRat | exact rSpan | exact rPose | exact rFrame | exact rVec | exact rTurn | exact rBox)) rfl (by (repeat (first | exact List.Mem.head _ | refine List.Mem.tail _ ?_ | assumption))) (by rfl)) rfl ⟨rfl, H.out.drop⟩
end Go.Proofs.YtolekonocbeekaaDoor

namespace Go.Proofs.YtolekonocbeekaaDoor
open Go.RowKit
set_option linter.unusedVariables false
set_option maxRecDepth 100000

set_option maxHeartbeats 4000000 in
theorem within1_any {w0 w : World} {m m' : Ents} {k : Nat} (a b : Option Rat) (S : Sd) (g c : Nat) (u : Rat) (H : Hid (Hp w0 w m)) (hk : k ≤ 200) (Za : Hid (SzO k a)) (Zb : Hid (SzO k b)) (Fu : Hid (btQ (valO a) (valO b) (S.nx 9) = u)) (hS : Hid (S.ok w0)) (hc : Hid ((c, 78, [.pointer (some ⟨g, 0, none⟩)]) ∈ m)) (hu : Hid (Upd m g 80 [S.v] [S.sn.v] m')) :
    Calls Tryd.prog 45 #[.agg #[.bool (sgO a), .string (nuO a), .string (deO a), .bool (sgO b), .string (nuO b), .string (deO b)], .pointer (some ⟨c, 0, none⟩)] w fun e w' => e = .returned (.agg #[.bool (sgO (some u)), .string (nuO (some u)), .string (deO (some u))]) ∧ Hp w0 w' m' := by
  have HC := hc.out
  have HU := hu.out
  have HG := HU.mem
  have hn := S.nx_bd 9 (by decide)
  obtain ⟨hn1, hn2⟩ := hn
  have hn3 : S.nx 9 ≤ 8 := by omega
  clear hn2
  go_enter Tryd.func45, Tryd.ntmps45
  go_wp2_with (first
      | ((with_reducible refine isBox ?_); refine bxA H ?_; clear H; intro _ _ H)
      | ((with_reducible refine isAlloc ?_); refine alA H ?_; clear H; intro _ _ H))
  rename_i b2 W2 b3 W3 K3 hK3
  refine wp_region_V 4 [.p, .p, .s, .p] [(b2, 26, [.bool (sgO a), .string (nuO a), .string (deO a), .bool (sgO b), .string (nuO b), .string (deO b)]), (c, 78, [.pointer (some ⟨g, 0, none⟩)])] H (by intro x hx; simp only [List.mem_cons, List.not_mem_nil, or_false] at hx; rcases hx with rfl | rfl <;> (repeat (first | exact List.Mem.head _ | refine List.Mem.tail _ ?_ | assumption))) (by simp only [List.map_cons, List.map_nil, List.nodup_cons, List.mem_cons, List.not_mem_nil, or_false, not_false_eq_true, List.nodup_nil, and_true]; and_intros <;> exact H.out.ne_t (by (repeat (first | exact List.Mem.head _ | refine List.Mem.tail _ ?_ | assumption))) (by (repeat (first | exact List.Mem.head _ | refine List.Mem.tail _ ?_ | assumption))) (by decide)) (by kernel_rfl) (by kernel_rfl) (by kernel_rfl) ?_
  simp only [List.take_succ_cons, List.take_zero, List.drop_succ_cons, List.drop_zero]
  refine wpV_load (by rfl) rfl (by (first | exact wanted_none rfl | exact wanted_some rfl rfl)) (by (first | exact rRat | exact rSpan | exact rPose | exact rFrame | exact rVec | exact rTurn | exact rBox)) (by rfl) (by (repeat (first | exact List.Mem.head _ | refine List.Mem.tail _ ?_ | assumption))) (by (simp only [List.drop, List.take]); rfl) (by rfl) ?_
  (simp only [Act.put, List.setIfInBounds_toArray, List.set_cons_succ, List.set_cons_zero])
  refine wpV_load1 (by rfl) rfl (by (first | exact wanted_none rfl | exact wanted_some rfl rfl)) (by (first | exact kBool | exact kStr | exact kInt | exact kStm)) (by rfl) (by (repeat (first | exact List.Mem.head _ | refine List.Mem.tail _ ?_ | assumption))) (by rfl) ?_
  (simp only [Act.put, List.setIfInBounds_toArray, List.set_cons_succ, List.set_cons_zero])
  apply wpV_S (z := g) [S.sn.v] (by rfl) (by (first | exact wanted_none rfl | exact wanted_some rfl rfl)) (by intro x hx; simp only [List.mem_cons, List.not_mem_nil, or_false] at hx; rcases hx with rfl | rfl <;> exact H.out.ne_t (by (repeat (first | exact List.Mem.head _ | refine List.Mem.tail _ ?_ | assumption))) (by (repeat (first | exact List.Mem.head _ | refine List.Mem.tail _ ?_ | assumption))) (by decide)) (by (repeat (first | apply Upd.head | apply Upd.tail | assumption)))
  · intro m m2 W hW hs hu
    go_simp
    refine ⟨rfl, ?_⟩
    go_at_call 44
    exact nextH_any S g 9 hW hS (Lib.hid hu) (by decide) (by decide)
  (simp only [Act.put, List.setIfInBounds_toArray, List.set_cons_succ, List.set_cons_zero])
  apply wpV_C (by rfl) (by (first | exact wanted_none rfl | exact wanted_some rfl rfl))
  · intro W hW
    unfold keepsAt
    go_simp
    go_at_call 46
    exact between_any a b (S.nx 9) u _ (by omega) Za Zb hn1 hn3 Fu hW.out.tb
  (simp only [Act.put, List.setIfInBounds_toArray, List.set_cons_succ, List.set_cons_zero])
  refine wpV_nil ?_
  clear H
  intro _ H
  go_wp2_with (first
      | ((with_reducible refine isStore ?_); refine stA H ?_; clear H; intro _ H))
  exact bodyPost_ret (results_H H Tryd.results45 (by (first | exact rRat | exact rSpan | exact rPose | exact rFrame | exact rVec | exact rTurn | exact rBox)) rfl (by (repeat (first | exact List.Mem.head _ | refine List.Mem.tail _ ?_ | assumption))) (by rfl)) rfl ⟨rfl, H.out.drop.drop⟩
end Go.Proofs.YtolekonocbeekaaDoor

namespace Go.Proofs.YtolekonocbeekaaDoor
open Go.RowKit
set_option linter.unusedVariables false
set_option maxRecDepth 100000

theorem zStm : (Tryd.prog.info? 78).bind (·.zero) = some (.pointer none) := by kernel_rfl
theorem Sd.ok.below {S : Sd} {w0 W : World} (h : S.ok w0) (hb : Below w0.heap.size w0 W) : S.ok W := ⟨h.le, h.mx, fun hp => by
  obtain ⟨b', o, h1, h2, h3⟩ := h.at_ hp
  exact ⟨b', o, h1, Nat.lt_of_lt_of_le h2 hb.size, fun j x hx => (hb.cell (p := ⟨b', o + j, none⟩) h2).trans (h3 j x hx)⟩, h.rg⟩
def Sd.lo (S : Sd) (most : Int) : Rat := ofQ (S.nx (2 * most + 1) - most) 4
def Sd.hi (S : Sd) (most : Int) : Rat := ofQ (S.nx (2 * most + 1) - most + S.sn.nx 7) 4
def Sd.s2 (S : Sd) : Sd := S.sn.sn
def Sd.s4 (S : Sd) : Sd := S.s2.s2
theorem Sd.ok.s2 {S : Sd} {w0 : World} (h : S.ok w0) : S.s2.ok w0 := h.next.next
theorem Sd.ok.s4 {S : Sd} {w0 : World} (h : S.ok w0) : S.s4.ok w0 := h.s2.s2
end Go.Proofs.YtolekonocbeekaaDoor

namespace Go.Proofs.YtolekonocbeekaaDoor
open Go.RowKit
set_option linter.unusedVariables false
set_option maxRecDepth 100000

set_option maxHeartbeats 4000000 in
theorem Frame_any (S : Sd) (u1 u2 u3 : Rat) (w : World) (hS : S.ok w) (hT : Tb w) (E1 : Hid (ofQ (S.nx 33 - 16) 2 = u1)) (E2 : Hid (ofQ (S.sn.nx 33 - 16) 2 = u2)) (E3 : Hid (ofQ (S.s2.nx 9 - 4) 4 = u3)) :
    Calls Tryd.prog 31 #[.slice S.A S.xs.length S.c] w fun e w' => e = .returned (.agg #[.bool (sgO (some u1)), .string (nuO (some u1)), .string (deO (some u1)), .bool (sgO (some u2)), .string (nuO (some u2)), .string (deO (some u2)), .bool false, .bool (sgO (some u3)), .string (nuO (some u3)), .string (deO (some u3))]) ∧ Below w.heap.size w w' := by
  have H := Lib.hid (Hp.start hT)
  have HS0 := Lib.hid hS
  have HS1 := Lib.hid hS.next
  have HS2 := Lib.hid hS.s2
  have hn1 := S.nx_bd 33 (by decide)
  have hn2 := S.sn.nx_bd 33 (by decide)
  have hn3 := S.s2.nx_bd 9 (by decide)
  clear hT hS
  go_enter Tryd.func31, Tryd.ntmps31
  go_wp2_with (first
      | ((with_reducible refine isBox ?_); refine bxA H ?_; clear H; intro _ _ H)
      | ((with_reducible refine isAlloc ?_); refine alA H ?_; clear H; intro _ _ H))
  refine (nextH_any S _ 33 H HS0 (by unfold Hid; (repeat (first | apply Upd.head | apply Upd.tail | assumption))) (by decide) (by decide)).mono ?_
  rintro _ _ ⟨rfl, H2⟩
  replace H := Lib.hid H2
  clear H2
  go_wp2_with (first
      | go_skip)
  refine (ofQ_any (S.nx 33 - 16) 2 u1 _ (by omega) (by omega) (by decide) (by decide) E1).mono ?_
  rintro _ _ ⟨rfl, hb⟩
  replace H := Lib.hid (H.out.go hb)
  clear hb
  go_wp2_with (first
      | go_skip)
  refine (nextH_any S.sn _ 33 H HS1 (by unfold Hid; (repeat (first | apply Upd.head | apply Upd.tail | assumption))) (by decide) (by decide)).mono ?_
  rintro _ _ ⟨rfl, H2⟩
  replace H := Lib.hid H2
  clear H2
  go_wp2_with (first
      | go_skip)
  refine (ofQ_any (S.sn.nx 33 - 16) 2 u2 _ (by omega) (by omega) (by decide) (by decide) E2).mono ?_
  rintro _ _ ⟨rfl, hb⟩
  replace H := Lib.hid (H.out.go hb)
  clear hb
  go_wp2_with (first
      | go_skip)
  refine (nextH_any S.s2 _ 9 H HS2 (by unfold Hid; (repeat (first | apply Upd.head | apply Upd.tail | assumption))) (by decide) (by decide)).mono ?_
  rintro _ _ ⟨rfl, H2⟩
  replace H := Lib.hid H2
  clear H2
  go_wp2_with (first
      | go_skip)
  refine (ofQ_any (S.s2.nx 9 - 4) 4 u3 _ (by omega) (by omega) (by decide) (by decide) E3).mono ?_
  rintro _ _ ⟨rfl, hb⟩
  replace H := Lib.hid (H.out.go hb)
  clear hb
  go_wp2_with (first
      | ((with_reducible refine isStore ?_); refine stA H ?_; clear H; intro _ H))
  exact bodyPost_ret (results_H H Tryd.results31 (by (first | exact rRat | exact rSpan | exact rPose | exact rFrame | exact rVec | exact rTurn | exact rBox)) rfl (by (repeat (first | exact List.Mem.head _ | refine List.Mem.tail _ ?_ | assumption))) (by rfl)) rfl ⟨rfl, H.out.bel⟩
end Go.Proofs.YtolekonocbeekaaDoor

namespace Go.Proofs.YtolekonocbeekaaDoor
open Go.RowKit
set_option linter.unusedVariables false
set_option maxRecDepth 100000

set_option maxHeartbeats 4000000 in
theorem Pose_any (S : Sd) (u1 v1 u2 v2 u3 v3 : Rat) (w : World) (hS : S.ok w) (hT : Tb w) (E1 : Hid (S.lo 20 = u1)) (E2 : Hid (S.hi 20 = v1)) (E3 : Hid (S.s2.lo 20 = u2)) (E4 : Hid (S.s2.hi 20 = v2)) (E5 : Hid (S.s4.lo 4 = u3)) (E6 : Hid (S.s4.hi 4 = v3)) :
    Calls Tryd.prog 10 #[.slice S.A S.xs.length S.c] w fun e w' => e = .returned (.agg #[.bool (sgO (some u1)), .string (nuO (some u1)), .string (deO (some u1)), .bool (sgO (some v1)), .string (nuO (some v1)), .string (deO (some v1)), .bool (sgO (some u2)), .string (nuO (some u2)), .string (deO (some u2)), .bool (sgO (some v2)), .string (nuO (some v2)), .string (deO (some v2)), .bool (sgO (some u3)), .string (nuO (some u3)), .string (deO (some u3)), .bool (sgO (some v3)), .string (nuO (some v3)), .string (deO (some v3))]) ∧ Below w.heap.size w w' := by
  have H := Lib.hid (Hp.start hT)
  have HS0 := Lib.hid hS
  have HS2 := Lib.hid hS.s2
  have HS4 := Lib.hid hS.s4
  clear hT hS
  go_enter Tryd.func10, Tryd.ntmps10
  go_wp2_with (first
      | ((with_reducible refine isStore ?_); refine st1A H ?_; clear H; intro _ H)
      | ((with_reducible refine isBox ?_); refine bxA H ?_; clear H; intro _ _ H)
      | ((with_reducible refine isAlloc ?_); refine alA H ?_; clear H; intro _ _ H))
  refine (pose1_any S 20 _ _ u1 v1 H (by decide) (by decide) E1 E2 HS0 (by unfold Hid; (repeat (first | exact List.Mem.head _ | refine List.Mem.tail _ ?_ | assumption))) (by unfold Hid; (repeat (first | apply Upd.head | apply Upd.tail | assumption)))).mono ?_
  rintro _ _ ⟨rfl, H2⟩
  replace H := Lib.hid H2
  clear H2
  go_wp2_with (first
      | go_skip)
  refine (pose1_any S.s2 20 _ _ u2 v2 H (by decide) (by decide) E3 E4 HS2 (by unfold Hid; (repeat (first | exact List.Mem.head _ | refine List.Mem.tail _ ?_ | assumption))) (by unfold Hid; (repeat (first | apply Upd.head | apply Upd.tail | assumption)))).mono ?_
  rintro _ _ ⟨rfl, H2⟩
  replace H := Lib.hid H2
  clear H2
  go_wp2_with (first
      | go_skip)
  refine (pose1_any S.s4 4 _ _ u3 v3 H (by decide) (by decide) E5 E6 HS4 (by unfold Hid; (repeat (first | exact List.Mem.head _ | refine List.Mem.tail _ ?_ | assumption))) (by unfold Hid; (repeat (first | apply Upd.head | apply Upd.tail | assumption)))).mono ?_
  rintro _ _ ⟨rfl, H2⟩
  replace H := Lib.hid H2
  clear H2
  go_wp2_with (first
      | ((with_reducible refine isStore ?_); refine stA H ?_; clear H; intro _ H))
  exact bodyPost_ret (results_H H Tryd.results10 (by (first | exact rRat | exact rSpan | exact rPose | exact rFrame | exact rVec | exact rTurn | exact rBox)) rfl (by (repeat (first | exact List.Mem.head _ | refine List.Mem.tail _ ?_ | assumption))) (by rfl)) rfl ⟨rfl, H.out.bel⟩
end Go.Proofs.YtolekonocbeekaaDoor

namespace Go.Proofs.YtolekonocbeekaaDoor
open Go.RowKit
set_option linter.unusedVariables false
set_option maxRecDepth 100000

set_option maxHeartbeats 4000000 in
theorem Within_any {k : Nat} (S : Sd) (a1 b1 : Option Rat) (a2 b2 : Option Rat) (a3 b3 : Option Rat) (u1 u2 u3 : Rat) (w : World) (hk : k ≤ 200) (Za1 : Hid (SzO k a1)) (Zb1 : Hid (SzO k b1)) (Za2 : Hid (SzO k a2)) (Zb2 : Hid (SzO k b2)) (Za3 : Hid (SzO k a3)) (Zb3 : Hid (SzO k b3)) (hS : S.ok w) (hT : Tb w) (E1 : Hid (btQ (valO a1) (valO b1) (S.nx 9) = u1)) (E2 : Hid (btQ (valO a2) (valO b2) (S.sn.nx 9) = u2)) (E3 : Hid (btQ (valO a3) (valO b3) (S.s2.nx 9) = u3)) :
    Calls Tryd.prog 11 #[.agg #[.bool (sgO a1), .string (nuO a1), .string (deO a1), .bool (sgO b1), .string (nuO b1), .string (deO b1), .bool (sgO a2), .string (nuO a2), .string (deO a2), .bool (sgO b2), .string (nuO b2), .string (deO b2), .bool (sgO a3), .string (nuO a3), .string (deO a3), .bool (sgO b3), .string (nuO b3), .string (deO b3)], .slice S.A S.xs.length S.c] w fun e w' => e = .returned (.agg #[.bool (sgO (some u1)), .string (nuO (some u1)), .string (deO (some u1)), .bool (sgO (some u2)), .string (nuO (some u2)), .string (deO (some u2)), .bool false, .bool (sgO (some u3)), .string (nuO (some u3)), .string (deO (some u3))]) ∧ Below w.heap.size w w' := by
  have H := Lib.hid (Hp.start hT)
  have HS0 := Lib.hid hS
  have HS1 := Lib.hid hS.next
  have HS2 := Lib.hid hS.s2
  clear hT hS
  go_enter Tryd.func11, Tryd.ntmps11
  go_wp2_with (first
      | ((with_reducible refine isStore ?_); refine st1A H ?_; clear H; intro _ H)
      | ((with_reducible refine isBox ?_); refine bxA H ?_; clear H; intro _ _ H)
      | ((with_reducible refine isAlloc ?_); refine alA H ?_; clear H; intro _ _ H))
  rename_i bp Wa br Wb g Wc c Wd We K3 hK3
  refine wp_region_V 15 [.p, .p, .p, .s, .p, .p, .p, .s, .p, .p, .p, .p, .s, .p, .p] [(bp, 28, [.bool (sgO a1), .string (nuO a1), .string (deO a1), .bool (sgO b1), .string (nuO b1), .string (deO b1), .bool (sgO a2), .string (nuO a2), .string (deO a2), .bool (sgO b2), .string (nuO b2), .string (deO b2), .bool (sgO a3), .string (nuO a3), .string (deO a3), .bool (sgO b3), .string (nuO b3), .string (deO b3)]), (c, 78, [.pointer (some ⟨g, 0, none⟩)])] H (by intro x hx; simp only [List.mem_cons, List.not_mem_nil, or_false] at hx; rcases hx with rfl | rfl <;> (repeat (first | exact List.Mem.head _ | refine List.Mem.tail _ ?_ | assumption))) (by simp only [List.map_cons, List.map_nil, List.nodup_cons, List.mem_cons, List.not_mem_nil, or_false, not_false_eq_true, List.nodup_nil, and_true]; and_intros <;> exact H.out.ne_t (by (repeat (first | exact List.Mem.head _ | refine List.Mem.tail _ ?_ | assumption))) (by (repeat (first | exact List.Mem.head _ | refine List.Mem.tail _ ?_ | assumption))) (by decide)) (by kernel_rfl) (by kernel_rfl) (by kernel_rfl) ?_
  simp only [List.take_succ_cons, List.take_zero, List.drop_succ_cons, List.drop_zero]
  refine wpV_P (by rfl) (by (first | exact wanted_none rfl | exact wanted_some rfl rfl)) (by intro W; first | (go_simp; rfl) | go_simp) ?_
  (simp only [Act.put, List.setIfInBounds_toArray, List.set_cons_succ, List.set_cons_zero])
  refine wpV_P (by rfl) (by (first | exact wanted_none rfl | exact wanted_some rfl rfl)) (by intro W; first | (go_simp; rfl) | go_simp) ?_
  (simp only [Act.put, List.setIfInBounds_toArray, List.set_cons_succ, List.set_cons_zero])
  refine wpV_load (by rfl) rfl (by (first | exact wanted_none rfl | exact wanted_some rfl rfl)) (by (first | exact rRat | exact rSpan | exact rPose | exact rFrame | exact rVec | exact rTurn | exact rBox)) (by rfl) (by (repeat (first | exact List.Mem.head _ | refine List.Mem.tail _ ?_ | assumption))) (by (simp only [List.drop, List.take]); rfl) (by rfl) ?_
  (simp only [Act.put, List.setIfInBounds_toArray, List.set_cons_succ, List.set_cons_zero])
  apply wpV_S (z := g) [S.sn.v] (by rfl) (by (first | exact wanted_none rfl | exact wanted_some rfl rfl)) (by intro x hx; simp only [List.mem_cons, List.not_mem_nil, or_false] at hx; rcases hx with rfl | rfl <;> exact H.out.ne_t (by (repeat (first | exact List.Mem.head _ | refine List.Mem.tail _ ?_ | assumption))) (by (repeat (first | exact List.Mem.head _ | refine List.Mem.tail _ ?_ | assumption))) (by decide)) (by (repeat (first | apply Upd.head | apply Upd.tail | assumption)))
  · intro m m2 W hW hs hu
    go_simp
    refine ⟨rfl, ?_⟩
    go_at_call 45
    exact within1_any a1 b1 S g c u1 hW hk Za1 Zb1 E1 HS0 (Lib.hid (hs _ (.tail _ (.head _)))) (Lib.hid hu)
  (simp only [Act.put, List.setIfInBounds_toArray, List.set_cons_succ, List.set_cons_zero])
  refine wpV_P (by rfl) (by (first | exact wanted_none rfl | exact wanted_some rfl rfl)) (by intro W; first | (go_simp; rfl) | go_simp) ?_
  (simp only [Act.put, List.setIfInBounds_toArray, List.set_cons_succ, List.set_cons_zero])
  refine wpV_P (by rfl) (by (first | exact wanted_none rfl | exact wanted_some rfl rfl)) (by intro W; first | (go_simp; rfl) | go_simp) ?_
  (simp only [Act.put, List.setIfInBounds_toArray, List.set_cons_succ, List.set_cons_zero])
  refine wpV_load (by rfl) rfl (by (first | exact wanted_none rfl | exact wanted_some rfl rfl)) (by (first | exact rRat | exact rSpan | exact rPose | exact rFrame | exact rVec | exact rTurn | exact rBox)) (by rfl) (by (repeat (first | exact List.Mem.head _ | refine List.Mem.tail _ ?_ | assumption))) (by (simp only [List.drop, List.take]); rfl) (by rfl) ?_
  (simp only [Act.put, List.setIfInBounds_toArray, List.set_cons_succ, List.set_cons_zero])
  apply wpV_S (z := g) [S.sn.sn.v] (by rfl) (by (first | exact wanted_none rfl | exact wanted_some rfl rfl)) (by intro x hx; simp only [List.mem_cons, List.not_mem_nil, or_false] at hx; rcases hx with rfl | rfl <;> exact H.out.ne_t (by (repeat (first | exact List.Mem.head _ | refine List.Mem.tail _ ?_ | assumption))) (by (repeat (first | exact List.Mem.head _ | refine List.Mem.tail _ ?_ | assumption))) (by decide)) (by (repeat (first | apply Upd.head | apply Upd.tail | assumption)))
  · intro m m2 W hW hs hu
    go_simp
    refine ⟨rfl, ?_⟩
    go_at_call 45
    exact within1_any a2 b2 S.sn g c u2 hW hk Za2 Zb2 E2 HS1 (Lib.hid (hs _ (.tail _ (.head _)))) (Lib.hid hu)
  (simp only [Act.put, List.setIfInBounds_toArray, List.set_cons_succ, List.set_cons_zero])
  refine wpV_P (by rfl) (by (first | exact wanted_none rfl | exact wanted_some rfl rfl)) (by intro W; first | (go_simp; rfl) | go_simp) ?_
  (simp only [Act.put, List.setIfInBounds_toArray, List.set_cons_succ, List.set_cons_zero])
  refine wpV_P (by rfl) (by (first | exact wanted_none rfl | exact wanted_some rfl rfl)) (by intro W; first | (go_simp; rfl) | go_simp) ?_
  (simp only [Act.put, List.setIfInBounds_toArray, List.set_cons_succ, List.set_cons_zero])
  refine wpV_P (by rfl) (by (first | exact wanted_none rfl | exact wanted_some rfl rfl)) (by intro W; first | (go_simp; rfl) | go_simp) ?_
  (simp only [Act.put, List.setIfInBounds_toArray, List.set_cons_succ, List.set_cons_zero])
  refine wpV_load (by rfl) rfl (by (first | exact wanted_none rfl | exact wanted_some rfl rfl)) (by (first | exact rRat | exact rSpan | exact rPose | exact rFrame | exact rVec | exact rTurn | exact rBox)) (by rfl) (by (repeat (first | exact List.Mem.head _ | refine List.Mem.tail _ ?_ | assumption))) (by (simp only [List.drop, List.take]); rfl) (by rfl) ?_
  (simp only [Act.put, List.setIfInBounds_toArray, List.set_cons_succ, List.set_cons_zero])
  apply wpV_S (z := g) [S.s2.sn.v] (by rfl) (by (first | exact wanted_none rfl | exact wanted_some rfl rfl)) (by intro x hx; simp only [List.mem_cons, List.not_mem_nil, or_false] at hx; rcases hx with rfl | rfl <;> exact H.out.ne_t (by (repeat (first | exact List.Mem.head _ | refine List.Mem.tail _ ?_ | assumption))) (by (repeat (first | exact List.Mem.head _ | refine List.Mem.tail _ ?_ | assumption))) (by decide)) (by (repeat (first | apply Upd.head | apply Upd.tail | assumption)))
  · intro m m2 W hW hs hu
    go_simp
    refine ⟨rfl, ?_⟩
    go_at_call 45
    exact within1_any a3 b3 S.s2 g c u3 hW hk Za3 Zb3 E3 HS2 (Lib.hid (hs _ (.tail _ (.head _)))) (Lib.hid hu)
  (simp only [Act.put, List.setIfInBounds_toArray, List.set_cons_succ, List.set_cons_zero])
  refine wpV_P (by rfl) (by (first | exact wanted_none rfl | exact wanted_some rfl rfl)) (by intro W; first | (go_simp; rfl) | go_simp) ?_
  (simp only [Act.put, List.setIfInBounds_toArray, List.set_cons_succ, List.set_cons_zero])
  refine wpV_P (by rfl) (by (first | exact wanted_none rfl | exact wanted_some rfl rfl)) (by intro W; first | (go_simp; rfl) | go_simp) ?_
  (simp only [Act.put, List.setIfInBounds_toArray, List.set_cons_succ, List.set_cons_zero])
  refine wpV_nil ?_
  clear H
  intro _ H
  go_wp2_with (first
      | ((with_reducible refine isStore ?_); refine stA H ?_; clear H; intro _ H))
  exact bodyPost_ret (results_H H Tryd.results11 (by (first | exact rRat | exact rSpan | exact rPose | exact rFrame | exact rVec | exact rTurn | exact rBox)) rfl (by (repeat (first | exact List.Mem.head _ | refine List.Mem.tail _ ?_ | assumption))) (by rfl)) rfl ⟨rfl, H.out.bel⟩
end Go.Proofs.YtolekonocbeekaaDoor

namespace Go.Proofs.YtolekonocbeekaaDoor
open Go.RowKit
set_option linter.unusedVariables false
set_option maxRecDepth 100000

theorem ofQ_div (n : Int) (d : Nat) : ofQ n d = (n : Rat) / ((d : Int) : Rat) := by
  unfold ofQ
  rw [Rat.mkRat_eq_div]
  rfl
theorem ofQ_le {n m : Int} (h : n ≤ m) : ofQ n 4 ≤ ofQ m 4 := by
  rw [ofQ_div, ofQ_div]
  have e4 : (((4 : Nat) : Int) : Rat) = 4 := rfl
  rw [e4]
  have : (n : Rat) ≤ (m : Rat) := by exact_mod_cast h
  grind
/-- A pose with good spans of small numbers. -/
structure PoseF (k : Nat) (a1 b1 a2 b2 a3 b3 : Rat) : Prop where
  l1 : a1 ≤ b1
  l2 : a2 ≤ b2
  l3 : a3 ≤ b3
  za1 : Sz k a1
  zb1 : Sz k b1
  za2 : Sz k a2
  zb2 : Sz k b2
  za3 : Sz k a3
  zb3 : Sz k b3
theorem lo_hi (S : Sd) (m : Int) : S.lo m ≤ S.hi m := ofQ_le (by have := S.sn.nx_bd 7 (by decide); omega)
theorem sz_lo (S : Sd) (m : Int) (h1 : 1 ≤ m) (h2 : m ≤ 1000) : Sz 2 (S.lo m) := by
  have := S.nx_bd (2 * m + 1) (by omega)
  exact ofQ_sz _ _ _ (by omega) (by decide) (by decide)
theorem sz_hi (S : Sd) (m : Int) (h1 : 1 ≤ m) (h2 : m ≤ 1000) : Sz 2 (S.hi m) := by
  have := S.nx_bd (2 * m + 1) (by omega)
  have := S.sn.nx_bd 7 (by decide)
  exact ofQ_sz _ _ _ (by omega) (by decide) (by decide)
theorem pose_ex (S : Sd) (w : World) (hS : S.ok w) : ∃ a1 b1 a2 b2 a3 b3 : Rat, PoseF 2 a1 b1 a2 b2 a3 b3 ∧ ∀ W, Below w.heap.size w W → Tb W →
    Calls Tryd.prog 10 #[.slice S.A S.xs.length S.c] W fun e w' => e = .returned (.agg #[.bool (sgO (some a1)), .string (nuO (some a1)), .string (deO (some a1)), .bool (sgO (some b1)), .string (nuO (some b1)), .string (deO (some b1)), .bool (sgO (some a2)), .string (nuO (some a2)), .string (deO (some a2)), .bool (sgO (some b2)), .string (nuO (some b2)), .string (deO (some b2)), .bool (sgO (some a3)), .string (nuO (some a3)), .string (deO (some a3)), .bool (sgO (some b3)), .string (nuO (some b3)), .string (deO (some b3))]) ∧ Below W.heap.size W w' :=
  ⟨S.lo 20, S.hi 20, S.s2.lo 20, S.s2.hi 20, S.s4.lo 4, S.s4.hi 4, ⟨lo_hi _ _, lo_hi _ _, lo_hi _ _, sz_lo _ _ (by decide) (by decide), sz_hi _ _ (by decide) (by decide), sz_lo _ _ (by decide) (by decide), sz_hi _ _ (by decide) (by decide), sz_lo _ _ (by decide) (by decide), sz_hi _ _ (by decide) (by decide)⟩,
    fun W hb hT => Pose_any S _ _ _ _ _ _ W (hS.below hb) hT rfl rfl rfl rfl rfl rfl⟩
theorem btQ_in {p q : Rat} (h : p ≤ q) {n : Int} (h0 : 0 ≤ n) (h8 : n ≤ 8) : p ≤ btQ p q n ∧ btQ p q n ≤ q := by
  unfold btQ
  have hn : (0 : Rat) ≤ (n : Rat) := by exact_mod_cast h0
  have hn8 : (n : Rat) ≤ 8 := by exact_mod_cast h8
  have e8 : ((8 : Int) : Rat) = 8 := rfl
  rw [e8]
  have h1 : (0 : Rat) ≤ (n : Rat) / 8 := by grind
  have h2 : (n : Rat) / 8 ≤ 1 := by grind
  have h3 : (0 : Rat) ≤ q - p := by grind
  have h4 := Rat.mul_nonneg h3 h1
  have h5 := Rat.mul_nonneg h3 (show (0 : Rat) ≤ 1 - (n : Rat) / 8 by grind)
  constructor
  · grind
  · grind
theorem within_ex {k : Nat} (S : Sd) (w : World) (hS : S.ok w) (a1 b1 a2 b2 a3 b3 : Rat) (hP : PoseF k a1 b1 a2 b2 a3 b3) (hk : k ≤ 200) : ∃ x y t : Rat, (a1 ≤ x ∧ x ≤ b1) ∧ (a2 ≤ y ∧ y ≤ b2) ∧ (a3 ≤ t ∧ t ≤ b3) ∧ Sz (3 * k + 8) x ∧ Sz (3 * k + 8) y ∧ Sz (3 * k + 8) t ∧ ∀ W, Below w.heap.size w W → Tb W →
    Calls Tryd.prog 11 #[.agg #[.bool (sgO (some a1)), .string (nuO (some a1)), .string (deO (some a1)), .bool (sgO (some b1)), .string (nuO (some b1)), .string (deO (some b1)), .bool (sgO (some a2)), .string (nuO (some a2)), .string (deO (some a2)), .bool (sgO (some b2)), .string (nuO (some b2)), .string (deO (some b2)), .bool (sgO (some a3)), .string (nuO (some a3)), .string (deO (some a3)), .bool (sgO (some b3)), .string (nuO (some b3)), .string (deO (some b3))], .slice S.A S.xs.length S.c] W fun e w' => e = .returned (.agg #[.bool (sgO (some x)), .string (nuO (some x)), .string (deO (some x)), .bool (sgO (some y)), .string (nuO (some y)), .string (deO (some y)), .bool false, .bool (sgO (some t)), .string (nuO (some t)), .string (deO (some t))]) ∧ Below W.heap.size W w' := by
  have n1 := S.nx_bd 9 (by decide)
  have n2 := S.sn.nx_bd 9 (by decide)
  have n3 := S.s2.nx_bd 9 (by decide)
  exact ⟨btQ a1 b1 (S.nx 9), btQ a2 b2 (S.sn.nx 9), btQ a3 b3 (S.s2.nx 9), btQ_in hP.l1 (by omega) (by omega), btQ_in hP.l2 (by omega) (by omega), btQ_in hP.l3 (by omega) (by omega), Sz.bt hP.za1 hP.zb1 (by omega) (by omega), Sz.bt hP.za2 hP.zb2 (by omega) (by omega), Sz.bt hP.za3 hP.zb3 (by omega) (by omega),
    fun W hb hT => Within_any (k := k) S (some a1) (some b1) (some a2) (some b2) (some a3) (some b3) _ _ _ W hk hP.za1 hP.zb1 hP.za2 hP.zb2 hP.za3 hP.zb3 (hS.below hb) hT rfl rfl rfl⟩
theorem frame_ex (S : Sd) (w : World) (hS : S.ok w) : ∃ x y t : Rat, Sz 1 x ∧ Sz 1 y ∧ Sz 1 t ∧ ∀ W, Below w.heap.size w W → Tb W →
    Calls Tryd.prog 31 #[.slice S.A S.xs.length S.c] W fun e w' => e = .returned (.agg #[.bool (sgO (some x)), .string (nuO (some x)), .string (deO (some x)), .bool (sgO (some y)), .string (nuO (some y)), .string (deO (some y)), .bool false, .bool (sgO (some t)), .string (nuO (some t)), .string (deO (some t))]) ∧ Below W.heap.size W w' := by
  have n1 := S.nx_bd 33 (by decide)
  have n2 := S.sn.nx_bd 33 (by decide)
  have n3 := S.s2.nx_bd 9 (by decide)
  exact ⟨ofQ (S.nx 33 - 16) 2, ofQ (S.sn.nx 33 - 16) 2, ofQ (S.s2.nx 9 - 4) 4, ofQ_sz _ _ _ (by omega) (by decide) (by decide), ofQ_sz _ _ _ (by omega) (by decide) (by decide), ofQ_sz _ _ _ (by omega) (by decide) (by decide),
    fun W hb hT => Frame_any S _ _ _ W (hS.below hb) hT rfl rfl rfl⟩
theorem HasG (a1 : Option Rat) (b1 : Option Rat) (a2 : Option Rat) (b2 : Option Rat) (a3 : Option Rat) (b3 : Option Rat) (r s t : Option Rat) (g : Bool) (w : World) (Sa1 : Hid (SmO a1)) (Sb1 : Hid (SmO b1)) (Sa2 : Hid (SmO a2)) (Sb2 : Hid (SmO b2)) (Sa3 : Hid (SmO a3)) (Sb3 : Hid (SmO b3)) (Sr : Hid (SmO r)) (Ss : Hid (SmO s)) (St : Hid (SmO t)) (G : Hid ((hasS a1 b1 r && (hasS a2 b2 s && hasS a3 b3 t)) = g)) (hT : Tb w) :
    Calls Tryd.prog 14 #[.agg #[.bool (sgO a1), .string (nuO a1), .string (deO a1), .bool (sgO b1), .string (nuO b1), .string (deO b1), .bool (sgO a2), .string (nuO a2), .string (deO a2), .bool (sgO b2), .string (nuO b2), .string (deO b2), .bool (sgO a3), .string (nuO a3), .string (deO a3), .bool (sgO b3), .string (nuO b3), .string (deO b3)], .agg #[.bool (sgO r), .string (nuO r), .string (deO r), .bool (sgO s), .string (nuO s), .string (deO s), .bool false, .bool (sgO t), .string (nuO t), .string (deO t)]] w fun e w' => e = .returned (.bool g) ∧ Below w.heap.size w w' := by
  have h := Has_any a1 b1 a2 b2 a3 b3 r s t false _ _ _ w Sa1.out Sb1.out Sa2.out Sb2.out Sa3.out Sb3.out Sr.out Ss.out St.out rfl rfl rfl hT
  rw [Bool.not_false, Bool.true_and, G.out] at h
  exact h
theorem InsideG (a1 : Option Rat) (b1 : Option Rat) (a2 : Option Rat) (b2 : Option Rat) (a3 : Option Rat) (b3 : Option Rat) (c1 : Option Rat) (d1 : Option Rat) (c2 : Option Rat) (d2 : Option Rat) (c3 : Option Rat) (d3 : Option Rat) (g : Bool) (w : World) (Sa1 : Hid (SmO a1)) (Sb1 : Hid (SmO b1)) (Sa2 : Hid (SmO a2)) (Sb2 : Hid (SmO b2)) (Sa3 : Hid (SmO a3)) (Sb3 : Hid (SmO b3)) (Sc1 : Hid (SmO c1)) (Sd1 : Hid (SmO d1)) (Sc2 : Hid (SmO c2)) (Sd2 : Hid (SmO d2)) (Sc3 : Hid (SmO c3)) (Sd3 : Hid (SmO d3)) (G : Hid ((inS a1 b1 c1 d1 && (inS a2 b2 c2 d2 && inS a3 b3 c3 d3)) = g)) (hT : Tb w) :
    Calls Tryd.prog 15 #[.agg #[.bool (sgO a1), .string (nuO a1), .string (deO a1), .bool (sgO b1), .string (nuO b1), .string (deO b1), .bool (sgO a2), .string (nuO a2), .string (deO a2), .bool (sgO b2), .string (nuO b2), .string (deO b2), .bool (sgO a3), .string (nuO a3), .string (deO a3), .bool (sgO b3), .string (nuO b3), .string (deO b3)], .agg #[.bool (sgO c1), .string (nuO c1), .string (deO c1), .bool (sgO d1), .string (nuO d1), .string (deO d1), .bool (sgO c2), .string (nuO c2), .string (deO c2), .bool (sgO d2), .string (nuO d2), .string (deO d2), .bool (sgO c3), .string (nuO c3), .string (deO c3), .bool (sgO d3), .string (nuO d3), .string (deO d3)]] w fun e w' => e = .returned (.bool g) ∧ Below w.heap.size w w' := by
  have h := Inside_any a1 b1 a2 b2 a3 b3 c1 d1 c2 d2 c3 d3 _ _ _ w Sa1.out Sb1.out Sa2.out Sb2.out Sa3.out Sb3.out Sc1.out Sd1.out Sc2.out Sd2.out Sc3.out Sd3.out rfl rfl rfl hT
  rw [G.out] at h
  exact h
theorem SameG (a1 : Option Rat) (b1 : Option Rat) (a2 : Option Rat) (b2 : Option Rat) (a3 : Option Rat) (b3 : Option Rat) (c1 : Option Rat) (d1 : Option Rat) (c2 : Option Rat) (d2 : Option Rat) (c3 : Option Rat) (d3 : Option Rat) (g : Bool) (w : World) (Sa1 : Hid (SmO a1)) (Sb1 : Hid (SmO b1)) (Sa2 : Hid (SmO a2)) (Sb2 : Hid (SmO b2)) (Sa3 : Hid (SmO a3)) (Sb3 : Hid (SmO b3)) (Sc1 : Hid (SmO c1)) (Sd1 : Hid (SmO d1)) (Sc2 : Hid (SmO c2)) (Sd2 : Hid (SmO d2)) (Sc3 : Hid (SmO c3)) (Sd3 : Hid (SmO d3)) (G : Hid (((inS a1 b1 c1 d1 && (inS a2 b2 c2 d2 && inS a3 b3 c3 d3)) && (inS c1 d1 a1 b1 && (inS c2 d2 a2 b2 && inS c3 d3 a3 b3))) = g)) (hT : Tb w) :
    Calls Tryd.prog 16 #[.agg #[.bool (sgO a1), .string (nuO a1), .string (deO a1), .bool (sgO b1), .string (nuO b1), .string (deO b1), .bool (sgO a2), .string (nuO a2), .string (deO a2), .bool (sgO b2), .string (nuO b2), .string (deO b2), .bool (sgO a3), .string (nuO a3), .string (deO a3), .bool (sgO b3), .string (nuO b3), .string (deO b3)], .agg #[.bool (sgO c1), .string (nuO c1), .string (deO c1), .bool (sgO d1), .string (nuO d1), .string (deO d1), .bool (sgO c2), .string (nuO c2), .string (deO c2), .bool (sgO d2), .string (nuO d2), .string (deO d2), .bool (sgO c3), .string (nuO c3), .string (deO c3), .bool (sgO d3), .string (nuO d3), .string (deO d3)]] w fun e w' => e = .returned (.bool g) ∧ Below w.heap.size w w' := by
  have h := Same_any a1 b1 a2 b2 a3 b3 c1 d1 c2 d2 c3 d3 _ _ _ _ _ _ w Sa1.out Sb1.out Sa2.out Sb2.out Sa3.out Sb3.out Sc1.out Sd1.out Sc2.out Sd2.out Sc3.out Sd3.out rfl rfl rfl rfl rfl rfl hT
  rw [G.out] at h
  exact h
theorem hasS_q {a b r : Rat} (h : a ≤ b) : hasS (some a) (some b) (some r) = decide (a ≤ r ∧ r ≤ b) := by unfold hasS; rw [nmS_some h]; rfl
theorem inS_q {a b c d : Rat} (h : a ≤ b) (h2 : c ≤ d) : inS (some a) (some b) (some c) (some d) = decide (c ≤ a ∧ b ≤ d) := by unfold inS; rw [nmS_some h, nmS_some h2]
theorem mtL_q {a b c d : Rat} (h : a ≤ b) (h2 : c ≤ d) : mtL (some a) (some b) (some c) (some d) = mx a c := by unfold mtL; rw [nmS_some h, nmS_some h2]
theorem mtH_q {a b c d : Rat} (h : a ≤ b) (h2 : c ≤ d) : mtH (some a) (some b) (some c) (some d) = mn b d := by unfold mtH; rw [nmS_some h, nmS_some h2]
theorem mx_le {a b r : Rat} : mx a b ≤ r ↔ a ≤ r ∧ b ≤ r := by unfold mx; split <;> grind
theorem le_mn {a b r : Rat} : r ≤ mn a b ↔ r ≤ a ∧ r ≤ b := by unfold mn; split <;> grind
end Go.Proofs.YtolekonocbeekaaDoor

namespace Go.Proofs.YtolekonocbeekaaDoor
open Go.RowKit
set_option linter.unusedVariables false
set_option maxRecDepth 100000

theorem Narrow_y {k : Nat} (a1 b1 a2 b2 a3 b3 c1 d1 c2 d2 c3 d3 : Rat) (w : World) (hk : k ≤ 9000) (hP : PoseF k a1 b1 a2 b2 a3 b3) (hQ : PoseF k c1 d1 c2 d2 c3 d3) (u1 v1 u2 v2 u3 v3 : Rat) (E1 : Hid (mx a1 c1 = u1)) (E2 : Hid (mn b1 d1 = v1)) (E3 : Hid (mx a2 c2 = u2)) (E4 : Hid (mn b2 d2 = v2)) (E5 : Hid (mx a3 c3 = u3)) (E6 : Hid (mn b3 d3 = v3)) (G : PoseF k u1 v1 u2 v2 u3 v3) (hT : Tb w) :
    Calls Tryd.prog 12 #[.agg #[.bool (sgO (some a1)), .string (nuO (some a1)), .string (deO (some a1)), .bool (sgO (some b1)), .string (nuO (some b1)), .string (deO (some b1)), .bool (sgO (some a2)), .string (nuO (some a2)), .string (deO (some a2)), .bool (sgO (some b2)), .string (nuO (some b2)), .string (deO (some b2)), .bool (sgO (some a3)), .string (nuO (some a3)), .string (deO (some a3)), .bool (sgO (some b3)), .string (nuO (some b3)), .string (deO (some b3))], .agg #[.bool (sgO (some c1)), .string (nuO (some c1)), .string (deO (some c1)), .bool (sgO (some d1)), .string (nuO (some d1)), .string (deO (some d1)), .bool (sgO (some c2)), .string (nuO (some c2)), .string (deO (some c2)), .bool (sgO (some d2)), .string (nuO (some d2)), .string (deO (some d2)), .bool (sgO (some c3)), .string (nuO (some c3)), .string (deO (some c3)), .bool (sgO (some d3)), .string (nuO (some d3)), .string (deO (some d3))]] w fun e w' => e = .returned (.tuple #[.agg #[.bool (sgO (some u1)), .string (nuO (some u1)), .string (deO (some u1)), .bool (sgO (some v1)), .string (nuO (some v1)), .string (deO (some v1)), .bool (sgO (some u2)), .string (nuO (some u2)), .string (deO (some u2)), .bool (sgO (some v2)), .string (nuO (some v2)), .string (deO (some v2)), .bool (sgO (some u3)), .string (nuO (some u3)), .string (deO (some u3)), .bool (sgO (some v3)), .string (nuO (some v3)), .string (deO (some v3))], .int .i64 0]) ∧ Below w.heap.size w w' :=
  Narrow_ok (k := k) _ _ _ _ _ _ _ _ _ _ _ _ u1 v1 u2 v2 u3 v3 w hk hP.za1 hP.zb1 hP.za2 hP.zb2 hP.za3 hP.zb3 hQ.za1 hQ.zb1 hQ.za2 hQ.zb2 hQ.za3 hQ.zb3 ((mtL_q hP.l1 hQ.l1).trans E1) ((mtH_q hP.l1 hQ.l1).trans E2) (decide_eq_true G.l1) ((mtL_q hP.l2 hQ.l2).trans E3) ((mtH_q hP.l2 hQ.l2).trans E4) (decide_eq_true G.l2) ((mtL_q hP.l3 hQ.l3).trans E5) ((mtH_q hP.l3 hQ.l3).trans E6) (decide_eq_true G.l3) hT
theorem Narrow_n {k : Nat} (a1 b1 a2 b2 a3 b3 c1 d1 c2 d2 c3 d3 : Rat) (w : World) (hk : k ≤ 9000) (hP : PoseF k a1 b1 a2 b2 a3 b3) (hQ : PoseF k c1 d1 c2 d2 c3 d3) (G : ¬ (mx a1 c1 ≤ mn b1 d1 ∧ mx a2 c2 ≤ mn b2 d2 ∧ mx a3 c3 ≤ mn b3 d3)) (hT : Tb w) :
    Calls Tryd.prog 12 #[.agg #[.bool (sgO (some a1)), .string (nuO (some a1)), .string (deO (some a1)), .bool (sgO (some b1)), .string (nuO (some b1)), .string (deO (some b1)), .bool (sgO (some a2)), .string (nuO (some a2)), .string (deO (some a2)), .bool (sgO (some b2)), .string (nuO (some b2)), .string (deO (some b2)), .bool (sgO (some a3)), .string (nuO (some a3)), .string (deO (some a3)), .bool (sgO (some b3)), .string (nuO (some b3)), .string (deO (some b3))], .agg #[.bool (sgO (some c1)), .string (nuO (some c1)), .string (deO (some c1)), .bool (sgO (some d1)), .string (nuO (some d1)), .string (deO (some d1)), .bool (sgO (some c2)), .string (nuO (some c2)), .string (deO (some c2)), .bool (sgO (some d2)), .string (nuO (some d2)), .string (deO (some d2)), .bool (sgO (some c3)), .string (nuO (some c3)), .string (deO (some c3)), .bool (sgO (some d3)), .string (nuO (some d3)), .string (deO (some d3))]] w fun e w' => e = .returned (.tuple #[.agg #[.bool false, .string ⟨#[]⟩, .string ⟨#[]⟩, .bool false, .string ⟨#[]⟩, .string ⟨#[]⟩, .bool false, .string ⟨#[]⟩, .string ⟨#[]⟩, .bool false, .string ⟨#[]⟩, .string ⟨#[]⟩, .bool false, .string ⟨#[]⟩, .string ⟨#[]⟩, .bool false, .string ⟨#[]⟩, .string ⟨#[]⟩], .int .i64 4]) ∧ Below w.heap.size w w' := by
  by_cases g1 : mx a1 c1 ≤ mn b1 d1
  · by_cases g2 : mx a2 c2 ≤ mn b2 d2
    · have g3 : ¬ mx a3 c3 ≤ mn b3 d3 := fun g3 => G ⟨g1, g2, g3⟩
      exact Narrow_no3 (k := k) _ _ _ _ _ _ _ _ _ _ _ _ _ _ _ _ _ _ w hk hP.za1 hP.zb1 hP.za2 hP.zb2 hP.za3 hP.zb3 hQ.za1 hQ.zb1 hQ.za2 hQ.zb2 hQ.za3 hQ.zb3 (mtL_q hP.l1 hQ.l1) (mtH_q hP.l1 hQ.l1) (decide_eq_true g1) (mtL_q hP.l2 hQ.l2) (mtH_q hP.l2 hQ.l2) (decide_eq_true g2) (mtL_q hP.l3 hQ.l3) (mtH_q hP.l3 hQ.l3) (decide_eq_false g3) hT
    · exact Narrow_no2 (k := k) _ _ _ _ _ _ _ _ _ _ _ _ _ _ _ _ _ _ _ w hk hP.za1 hP.zb1 hP.za2 hP.zb2 hP.za3 hP.zb3 hQ.za1 hQ.zb1 hQ.za2 hQ.zb2 hQ.za3 hQ.zb3 (mtL_q hP.l1 hQ.l1) (mtH_q hP.l1 hQ.l1) (decide_eq_true g1) (mtL_q hP.l2 hQ.l2) (mtH_q hP.l2 hQ.l2) (decide_eq_false g2) (mtL_q hP.l3 hQ.l3) (mtH_q hP.l3 hQ.l3) rfl hT
  · exact Narrow_no1 (k := k) _ _ _ _ _ _ _ _ _ _ _ _ _ _ _ _ _ _ _ _ w hk hP.za1 hP.zb1 hP.za2 hP.zb2 hP.za3 hP.zb3 hQ.za1 hQ.zb1 hQ.za2 hQ.zb2 hQ.za3 hQ.zb3 (mtL_q hP.l1 hQ.l1) (mtH_q hP.l1 hQ.l1) (decide_eq_false g1) (mtL_q hP.l2 hQ.l2) (mtH_q hP.l2 hQ.l2) rfl (mtL_q hP.l3 hQ.l3) (mtH_q hP.l3 hQ.l3) rfl hT
theorem sz_mx {k : Nat} {p q : Rat} (hp : Sz k p) (hq : Sz k q) : Sz k (mx p q) := Sz.ite hp hq
theorem sz_mn {k : Nat} {p q : Rat} (hp : Sz k p) (hq : Sz k q) : Sz k (mn p q) := Sz.ite hp hq
/-- The narrower pose. -/
theorem PoseF.meet {k : Nat} {a1 b1 a2 b2 a3 b3 c1 d1 c2 d2 c3 d3 : Rat} (hP : PoseF k a1 b1 a2 b2 a3 b3) (hQ : PoseF k c1 d1 c2 d2 c3 d3) (G : mx a1 c1 ≤ mn b1 d1 ∧ mx a2 c2 ≤ mn b2 d2 ∧ mx a3 c3 ≤ mn b3 d3) : PoseF k (mx a1 c1) (mn b1 d1) (mx a2 c2) (mn b2 d2) (mx a3 c3) (mn b3 d3) :=
  ⟨G.1, G.2.1, G.2.2, sz_mx hP.za1 hQ.za1, sz_mn hP.zb1 hQ.zb1, sz_mx hP.za2 hQ.za2, sz_mn hP.zb2 hQ.zb2, sz_mx hP.za3 hQ.za3, sz_mn hP.zb3 hQ.zb3⟩
/-- Is a frame in a pose, is a pose within another: at good poses. -/
def hasF (a1 b1 a2 b2 a3 b3 x y t : Rat) : Bool := decide ((a1 ≤ x ∧ x ≤ b1) ∧ (a2 ≤ y ∧ y ≤ b2) ∧ (a3 ≤ t ∧ t ≤ b3))
def inF (a1 b1 a2 b2 a3 b3 c1 d1 c2 d2 c3 d3 : Rat) : Bool := decide ((c1 ≤ a1 ∧ b1 ≤ d1) ∧ (c2 ≤ a2 ∧ b2 ≤ d2) ∧ (c3 ≤ a3 ∧ b3 ≤ d3))
theorem HasF_any {k : Nat} (a1 b1 a2 b2 a3 b3 x y t : Rat) (g : Bool) (w : World) (hk : k ≤ 10000) (hP : PoseF k a1 b1 a2 b2 a3 b3) (zx : Sz k x) (zy : Sz k y) (zt : Sz k t) (G : Hid (hasF a1 b1 a2 b2 a3 b3 x y t = g)) (hT : Tb w) :
    Calls Tryd.prog 14 #[.agg #[.bool (sgO (some a1)), .string (nuO (some a1)), .string (deO (some a1)), .bool (sgO (some b1)), .string (nuO (some b1)), .string (deO (some b1)), .bool (sgO (some a2)), .string (nuO (some a2)), .string (deO (some a2)), .bool (sgO (some b2)), .string (nuO (some b2)), .string (deO (some b2)), .bool (sgO (some a3)), .string (nuO (some a3)), .string (deO (some a3)), .bool (sgO (some b3)), .string (nuO (some b3)), .string (deO (some b3))], .agg #[.bool (sgO (some x)), .string (nuO (some x)), .string (deO (some x)), .bool (sgO (some y)), .string (nuO (some y)), .string (deO (some y)), .bool false, .bool (sgO (some t)), .string (nuO (some t)), .string (deO (some t))]] w fun e w' => e = .returned (.bool g) ∧ Below w.heap.size w w' :=
  HasG _ _ _ _ _ _ _ _ _ g w (Sz.o hP.za1 hk) (Sz.o hP.zb1 hk) (Sz.o hP.za2 hk) (Sz.o hP.zb2 hk) (Sz.o hP.za3 hk) (Sz.o hP.zb3 hk) (Sz.o zx hk) (Sz.o zy hk) (Sz.o zt hk) (by
    have h := G.out
    unfold hasF at h
    unfold Hid
    rw [hasS_q hP.l1, hasS_q hP.l2, hasS_q hP.l3, ← h]
    simp) hT
theorem InF_any {k : Nat} (a1 b1 a2 b2 a3 b3 c1 d1 c2 d2 c3 d3 : Rat) (g : Bool) (w : World) (hk : k ≤ 10000) (hP : PoseF k a1 b1 a2 b2 a3 b3) (hQ : PoseF k c1 d1 c2 d2 c3 d3) (G : Hid (inF a1 b1 a2 b2 a3 b3 c1 d1 c2 d2 c3 d3 = g)) (hT : Tb w) :
    Calls Tryd.prog 15 #[.agg #[.bool (sgO (some a1)), .string (nuO (some a1)), .string (deO (some a1)), .bool (sgO (some b1)), .string (nuO (some b1)), .string (deO (some b1)), .bool (sgO (some a2)), .string (nuO (some a2)), .string (deO (some a2)), .bool (sgO (some b2)), .string (nuO (some b2)), .string (deO (some b2)), .bool (sgO (some a3)), .string (nuO (some a3)), .string (deO (some a3)), .bool (sgO (some b3)), .string (nuO (some b3)), .string (deO (some b3))], .agg #[.bool (sgO (some c1)), .string (nuO (some c1)), .string (deO (some c1)), .bool (sgO (some d1)), .string (nuO (some d1)), .string (deO (some d1)), .bool (sgO (some c2)), .string (nuO (some c2)), .string (deO (some c2)), .bool (sgO (some d2)), .string (nuO (some d2)), .string (deO (some d2)), .bool (sgO (some c3)), .string (nuO (some c3)), .string (deO (some c3)), .bool (sgO (some d3)), .string (nuO (some d3)), .string (deO (some d3))]] w fun e w' => e = .returned (.bool g) ∧ Below w.heap.size w w' :=
  InsideG _ _ _ _ _ _ _ _ _ _ _ _ g w (Sz.o hP.za1 hk) (Sz.o hP.zb1 hk) (Sz.o hP.za2 hk) (Sz.o hP.zb2 hk) (Sz.o hP.za3 hk) (Sz.o hP.zb3 hk) (Sz.o hQ.za1 hk) (Sz.o hQ.zb1 hk) (Sz.o hQ.za2 hk) (Sz.o hQ.zb2 hk) (Sz.o hQ.za3 hk) (Sz.o hQ.zb3 hk) (by
    have h := G.out
    unfold inF at h
    unfold Hid
    rw [inS_q hP.l1 hQ.l1, inS_q hP.l2 hQ.l2, inS_q hP.l3 hQ.l3, ← h]
    simp) hT
theorem SameF_any {k : Nat} (a1 b1 a2 b2 a3 b3 c1 d1 c2 d2 c3 d3 : Rat) (g : Bool) (w : World) (hk : k ≤ 10000) (hP : PoseF k a1 b1 a2 b2 a3 b3) (hQ : PoseF k c1 d1 c2 d2 c3 d3) (G : Hid ((inF a1 b1 a2 b2 a3 b3 c1 d1 c2 d2 c3 d3 && inF c1 d1 c2 d2 c3 d3 a1 b1 a2 b2 a3 b3) = g)) (hT : Tb w) :
    Calls Tryd.prog 16 #[.agg #[.bool (sgO (some a1)), .string (nuO (some a1)), .string (deO (some a1)), .bool (sgO (some b1)), .string (nuO (some b1)), .string (deO (some b1)), .bool (sgO (some a2)), .string (nuO (some a2)), .string (deO (some a2)), .bool (sgO (some b2)), .string (nuO (some b2)), .string (deO (some b2)), .bool (sgO (some a3)), .string (nuO (some a3)), .string (deO (some a3)), .bool (sgO (some b3)), .string (nuO (some b3)), .string (deO (some b3))], .agg #[.bool (sgO (some c1)), .string (nuO (some c1)), .string (deO (some c1)), .bool (sgO (some d1)), .string (nuO (some d1)), .string (deO (some d1)), .bool (sgO (some c2)), .string (nuO (some c2)), .string (deO (some c2)), .bool (sgO (some d2)), .string (nuO (some d2)), .string (deO (some d2)), .bool (sgO (some c3)), .string (nuO (some c3)), .string (deO (some c3)), .bool (sgO (some d3)), .string (nuO (some d3)), .string (deO (some d3))]] w fun e w' => e = .returned (.bool g) ∧ Below w.heap.size w w' :=
  SameG _ _ _ _ _ _ _ _ _ _ _ _ g w (Sz.o hP.za1 hk) (Sz.o hP.zb1 hk) (Sz.o hP.za2 hk) (Sz.o hP.zb2 hk) (Sz.o hP.za3 hk) (Sz.o hP.zb3 hk) (Sz.o hQ.za1 hk) (Sz.o hQ.zb1 hk) (Sz.o hQ.za2 hk) (Sz.o hQ.zb2 hk) (Sz.o hQ.za3 hk) (Sz.o hQ.zb3 hk) (by
    have h := G.out
    unfold inF at h
    unfold Hid
    rw [inS_q hP.l1 hQ.l1, inS_q hP.l2 hQ.l2, inS_q hP.l3 hQ.l3, inS_q hQ.l1 hP.l1, inS_q hQ.l2 hP.l2, inS_q hQ.l3 hP.l3, ← h]
    simp) hT
theorem PoseF.mono {j k : Nat} {a1 b1 a2 b2 a3 b3 : Rat} (h : PoseF j a1 b1 a2 b2 a3 b3) (hk : j ≤ k) : PoseF k a1 b1 a2 b2 a3 b3 := ⟨h.l1, h.l2, h.l3, h.za1.mono hk, h.zb1.mono hk, h.za2.mono hk, h.zb2.mono hk, h.za3.mono hk, h.zb3.mono hk⟩
end Go.Proofs.YtolekonocbeekaaDoor

namespace Go.Proofs.YtolekonocbeekaaDoor
open Go.RowKit
set_option linter.unusedVariables false
set_option maxRecDepth 100000

set_option maxHeartbeats 4000000 in
theorem seen_any {k : Nat}  (w : World) (hk : k ≤ 200)  (hT : Tb w) :
    Calls Tryd.prog 13 #[] w fun e w' => e = .returned (.bool true) ∧ Below w.heap.size w w' := by
  have H := Lib.hid (Hp.start hT)
  clear hT
  obtain ⟨o, Eo⟩ : ∃ z : Rat, Hid (((2 : Int) : Rat) = z) := ⟨_, rfl⟩
  have Zo : Hid (Sz 3 o) := szEq Eo (Sz.int (2) (by decide))
  have So : Hid (SmO (some o)) := Sz.o Zo (by omega)
  have S0 : Hid (SmO none) := Sm.zero
  have E0 : Hid (valO none = 0) := rfl
  have E2 : Hid (valO (some o) = o) := rfl
  obtain ⟨z, Ez⟩ : ∃ z : Rat, Hid ((0 : Rat) = z) := ⟨_, rfl⟩
  have Sz0 : Hid (SmO (some z)) := by rw [← Ez.out]; exact Sm.zero
  have Ez0 : Hid (valO none = z) := Ez
  have G1 : Hid ((hasS (some o) (some o) (some o) && (hasS (some z) (some z) none && hasS (some z) (some z) none)) = true) := by have h1 := Eo.out; have h2 := Ez.out; subst h1; subst h2; unfold Hid; decide
  have G2 : Hid ((hasS (some o) (some o) none && (hasS (some z) (some z) none && hasS (some z) (some z) none)) = false) := by have h1 := Eo.out; have h2 := Ez.out; subst h1; subst h2; unfold Hid; decide
  go_enter Tryd.func13, Tryd.ntmps13
  go_wp2_with (first
      | go_skip)
  refine (ROf_any (2) o _ (by decide) (by decide) Eo H.out.tb).mono ?_
  rintro _ _ ⟨rfl, hb⟩
  replace H := Lib.hid (H.out.go hb)
  clear hb
  go_wp2_with (first
      | go_skip)
  refine (seeOf_any (some o) none none o z z _ So S0 S0 E2 Ez0 Ez0 H.out.tb).mono ?_
  rintro _ _ ⟨rfl, hb⟩
  replace H := Lib.hid (H.out.go hb)
  clear hb
  go_wp2_with (first
      | ((with_reducible refine isStore ?_); refine stA H ?_; clear H; intro _ H)
      | ((with_reducible refine isAlloc ?_); refine alA H ?_; clear H; intro _ _ H))
  refine wp_region_E H (by kernel_rfl) (by kernel_rfl) ?_
  repeat (first
      | ((with_reducible refine kLoad ?_); refine kldA H ?_)
      | ((fail_if_success (with_reducible refine kCall ?_)); (with_reducible refine kCons ?_); refine wpK_step (fun K hK => ?_); go_simp; refine hK _ ?_; clear hK K))
  refine wpK_step (fun K hK => ?_)
  go_simp
  apply Exists.intro
  refine ⟨fun sx => ?_, hK _ ?_⟩
  · go_at_call 35
    exact ROf_any (2) o _ (by decide) (by decide) Eo (H.out.tbx sx)
  clear hK K
  repeat (first
      | ((fail_if_success (with_reducible refine kCall ?_)); (with_reducible refine kCons ?_); refine wpK_step (fun K hK => ?_); go_simp; refine hK _ ?_; clear hK K))
  refine wpK_step (fun K hK => ?_)
  go_simp
  apply Exists.intro
  refine ⟨fun sx => ?_, hK _ ?_⟩
  · go_at_call 14
    exact HasG (some o) (some o) (some z) (some z) (some z) (some z) (some o) none none true _ So So Sz0 Sz0 Sz0 Sz0 So S0 S0 G1 (H.out.tbx sx)
  clear hK K
  repeat (first
      | ((with_reducible refine kLoad ?_); refine kldA H ?_)
      | ((fail_if_success (with_reducible refine kCall ?_)); (with_reducible refine kCons ?_); refine wpK_step (fun K hK => ?_); go_simp; refine hK _ ?_; clear hK K))
  refine wpK_step (fun K hK => ?_)
  go_simp
  apply Exists.intro
  refine ⟨fun sx => ?_, hK _ ?_⟩
  · go_at_call 14
    exact HasG (some o) (some o) (some z) (some z) (some z) (some z) none none none false _ So So Sz0 Sz0 Sz0 Sz0 S0 S0 S0 G2 (H.out.tbx sx)
  clear hK K
  repeat (first
      | ((fail_if_success (with_reducible refine kCall ?_)); (with_reducible refine kCons ?_); refine wpK_step (fun K hK => ?_); go_simp; refine hK _ ?_; clear hK K))
  refine wpKeep_nil ?_
  clear H
  intro _ H
  go_wp2_with (first
      | go_skip)
  go_ret
  exact ⟨rfl, H.out.bel⟩
end Go.Proofs.YtolekonocbeekaaDoor

namespace Go.Proofs.YtolekonocbeekaaDoor
open Go.RowKit
set_option linter.unusedVariables false
set_option maxRecDepth 100000

theorem mn_self (p : Rat) : mn p p = p := by unfold mn; split <;> rfl
/-- Cosine and sine of a turn by its tangent of the half. -/
def cosQ (v : Rat) : Rat := (((1 : Int) : Rat) - v * v) / (((1 : Int) : Rat) + v * v)
def sinQ (v : Rat) : Rat := (v + v) / (((1 : Int) : Rat) + v * v)
theorem onesq_pos (v : Rat) : 0 < ((1 : Int) : Rat) + v * v := by
  have h : (0 : Rat) ≤ v * v := by
    rcases (Rat.le_total : (0 : Rat) ≤ v ∨ v ≤ 0) with h | h
    · exact Rat.mul_nonneg h h
    · have h2 : 0 ≤ -v := by grind
      have := Rat.mul_nonneg h2 h2
      grind
  have e : ((1 : Int) : Rat) = 1 := rfl
  rw [e]
  grind
theorem onesq_ne (v : Rat) : ((1 : Int) : Rat) + v * v ≠ 0 := fun h => by have := onesq_pos v; rw [h] at this; exact absurd this (by decide)
theorem Sz.cosQ {k : Nat} {v : Rat} (h : Sz k v) : Sz (4 * k + 8) (cosQ v) := (Sz.div (Sz.sub (Sz.int 1 (by decide)) (h.mul h)) (Sz.add (Sz.int 1 (by decide)) (h.mul h)) (onesq_ne v)).mono (by omega)
theorem Sz.sinQ {k : Nat} {v : Rat} (h : Sz k v) : Sz (4 * k + 8) (sinQ v) := (Sz.div (h.add h) (Sz.add (Sz.int 1 (by decide)) (h.mul h)) (onesq_ne v)).mono (by omega)
def rotX (v x y : Rat) : Rat := x * cosQ v - y * sinQ v
def rotY (v x y : Rat) : Rat := x * sinQ v + y * cosQ v
theorem Sz.rotX {k : Nat} {v x y : Rat} (h : Sz k v) (hx : Sz k x) (hy : Sz k y) : Sz (10 * k + 17) (rotX v x y) := ((hx.mul h.cosQ).sub (hy.mul h.sinQ)).mono (by omega)
theorem Sz.rotY {k : Nat} {v x y : Rat} (h : Sz k v) (hx : Sz k x) (hy : Sz k y) : Sz (10 * k + 17) (rotY v x y) := ((hx.mul h.sinQ).add (hy.mul h.cosQ)).mono (by omega)
end Go.Proofs.YtolekonocbeekaaDoor

namespace Go.Proofs.YtolekonocbeekaaDoor
open Go.RowKit
set_option linter.unusedVariables false
set_option maxRecDepth 100000

structure Spn (k : Nat) (a b : Option Rat) (p q : Rat) : Prop where
  sa : SmO a
  sb : SmO b
  n : nmS a b = (p, q)
  zp : Sz k p
  zq : Sz k q
theorem Spn.le {k : Nat} {a b : Option Rat} {p q : Rat} (h : Spn k a b p q) : p ≤ q := by have := nmS_le a b; rw [h.n] at this; exact this
theorem Spn.two {k : Nat} {u v : Rat} (zu : Sz k u) (zv : Sz k v) (h : u ≤ v) (hk : k ≤ 10000) : Spn k (some u) (some v) u v := ⟨Sz.o zu hk, Sz.o zv hk, nmS_some h, zu, zv⟩
theorem Spn.of {k : Nat} {v : Rat} (z : Hid (Sz k v)) (hk : k ≤ 10000) : Spn k (some v) (some v) v v := Spn.two z z Rat.le_refl hk
theorem Spn.mono {j k : Nat} {a b : Option Rat} {p q : Rat} (h : Spn j a b p q) (hk : j ≤ k) : Spn k a b p q := ⟨h.sa, h.sb, h.n, h.zp.mono hk, h.zq.mono hk⟩
theorem Spn.good {k : Nat} {a b : Option Rat} {p q : Rat} (h : Spn k a b p q) (hk : k ≤ 10000) : Spn k (some p) (some q) p q := Spn.two h.zp h.zq h.le hk
theorem Spn.add {j k : Nat} {a b c d : Option Rat} {p q r s u v : Rat} (h : Spn j a b p q) (g : Spn k c d r s) (h1 : p + r = u) (h2 : q + s = v) (hk : j + k + 1 ≤ 10000) : Spn (j + k + 1) (some u) (some v) u v := by
  subst h1; subst h2
  have := h.le
  have := g.le
  exact Spn.two (h.zp.add g.zp) (h.zq.add g.zq) (by grind) hk
theorem Spn.sub {j k : Nat} {a b c d : Option Rat} {p q r s u v : Rat} (h : Spn j a b p q) (g : Spn k c d r s) (h1 : p - s = u) (h2 : q - r = v) (hk : j + k + 1 ≤ 10000) : Spn (j + k + 1) (some u) (some v) u v := by
  subst h1; subst h2
  have := h.le
  have := g.le
  exact Spn.two (h.zp.sub g.zq) (h.zq.sub g.zp) (by grind) hk
def mulL (p q r s : Rat) : Rat := arL (p * r) [p * s, q * r, q * s]
def mulH (p q r s : Rat) : Rat := arH (p * r) [p * s, q * r, q * s]
theorem mn_eq (a b : Rat) : mn a b = a ∨ mn a b = b := by unfold mn; split <;> simp
theorem mx_eq (a b : Rat) : mx a b = a ∨ mx a b = b := by unfold mx; split <;> simp
theorem mulL_le (p q r s : Rat) : mulL p q r s ≤ p * r ∧ mulL p q r s ≤ p * s ∧ mulL p q r s ≤ q * r ∧ mulL p q r s ≤ q * s := by
  have h1 := mn_le (p * r) (p * s)
  have h2 := mn_le (mn (p * r) (p * s)) (q * r)
  have h3 := mn_le (mn (mn (p * r) (p * s)) (q * r)) (q * s)
  show mn (mn (mn (p * r) (p * s)) (q * r)) (q * s) ≤ p * r ∧ mn (mn (mn (p * r) (p * s)) (q * r)) (q * s) ≤ p * s ∧ mn (mn (mn (p * r) (p * s)) (q * r)) (q * s) ≤ q * r ∧ mn (mn (mn (p * r) (p * s)) (q * r)) (q * s) ≤ q * s
  grind
theorem le_mulH (p q r s : Rat) : p * r ≤ mulH p q r s ∧ p * s ≤ mulH p q r s ∧ q * r ≤ mulH p q r s ∧ q * s ≤ mulH p q r s := by
  have h1 := le_mx (p * r) (p * s)
  have h2 := le_mx (mx (p * r) (p * s)) (q * r)
  have h3 := le_mx (mx (mx (p * r) (p * s)) (q * r)) (q * s)
  show p * r ≤ mx (mx (mx (p * r) (p * s)) (q * r)) (q * s) ∧ p * s ≤ mx (mx (mx (p * r) (p * s)) (q * r)) (q * s) ∧ q * r ≤ mx (mx (mx (p * r) (p * s)) (q * r)) (q * s) ∧ q * s ≤ mx (mx (mx (p * r) (p * s)) (q * r)) (q * s)
  grind
theorem Spn.mul {j k : Nat} {a b c d : Option Rat} {p q r s u v : Rat} (h : Spn j a b p q) (g : Spn k c d r s) (h1 : mulL p q r s = u) (h2 : mulH p q r s = v) (hk : j + k ≤ 10000) : Spn (j + k) (some u) (some v) u v := by
  subst h1; subst h2
  have hz := sz_ar (k := j + k) (x := p * r) (l := [p * s, q * r, q * s]) (by
    intro y hy
    simp only [List.mem_cons, List.not_mem_nil, or_false] at hy
    rcases hy with rfl | rfl | rfl | rfl
    · exact h.zp.mul g.zp
    · exact h.zp.mul g.zq
    · exact h.zq.mul g.zp
    · exact h.zq.mul g.zq)
  exact Spn.two hz.1 hz.2 (by have := mulL_le p q r s; have := le_mulH p q r s; grind) hk
theorem szmn {k : Nat} {p q : Rat} (hp : Sz k p) (hq : Sz k q) : Sz k (mn p q) := Sz.ite hp hq
theorem szmx {k : Nat} {p q : Rat} (hp : Sz k p) (hq : Sz k q) : Sz k (mx p q) := Sz.ite hp hq
theorem Spn.join {k : Nat} {a b c d : Option Rat} {p q r s u v : Rat} (h : Spn k a b p q) (g : Spn k c d r s) (h1 : mn p r = u) (h2 : mx q s = v) (hk : k + k ≤ 10000) : Spn k (some u) (some v) u v := by
  subst h1; subst h2
  exact Spn.two (szmn h.zp g.zp) (szmx h.zq g.zq) (by have := mn_le p r; have := le_mx q s; have := h.le; grind) (by omega)
/-- Squares, cosines and sines of a span. -/
def sqL (p q : Rat) : Rat := if p ≤ 0 ∧ 0 ≤ q then ((0 : Int) : Rat) else arL (p * p) [q * q]
def sqH (p q : Rat) : Rat := arH (p * p) [q * q]
theorem sq_nn (p : Rat) : 0 ≤ p * p := by
  rcases (Rat.le_total : (0 : Rat) ≤ p ∨ p ≤ 0) with h | h
  · exact Rat.mul_nonneg h h
  · have h2 : 0 ≤ -p := by grind
    have := Rat.mul_nonneg h2 h2
    grind
theorem sqL_nn (p q : Rat) : 0 ≤ sqL p q := by
  unfold sqL
  split
  · exact Rat.le_refl
  · show 0 ≤ mn (p * p) (q * q)
    rcases mn_eq (p * p) (q * q) with h | h <;> rw [h]
    · exact sq_nn p
    · exact sq_nn q
theorem sqH_nn (p q : Rat) : 0 ≤ sqH p q := by
  show 0 ≤ mx (p * p) (q * q)
  rcases mx_eq (p * p) (q * q) with h | h <;> rw [h]
  · exact sq_nn p
  · exact sq_nn q
theorem sqL_le (p q : Rat) : sqL p q ≤ sqH p q := by
  unfold sqL
  split
  · exact sqH_nn p q
  · show mn (p * p) (q * q) ≤ mx (p * p) (q * q)
    have := mn_le (p * p) (q * q)
    have := le_mx (p * p) (q * q)
    grind
theorem sqL_sz {k : Nat} {p q : Rat} (hp : Sz k p) (hq : Sz k q) : Sz (k + k + 3) (sqL p q) := by
  unfold sqL
  split
  · exact (Sz.int 0 (by decide)).mono (by omega)
  · exact (szmn (hp.mul hp) (hq.mul hq)).mono (by omega)
theorem sqH_sz {k : Nat} {p q : Rat} (hp : Sz k p) (hq : Sz k q) : Sz (k + k + 3) (sqH p q) := (szmx (hp.mul hp) (hq.mul hq)).mono (by omega)
def cosF (z : Rat) : Rat := (((1 : Int) : Rat) - z) / (((1 : Int) : Rat) + z)
theorem cosF_ne {z : Rat} (h : 0 ≤ z) : ((1 : Int) : Rat) + z ≠ 0 := fun e => by
  have e1 : ((1 : Int) : Rat) = 1 := rfl
  rw [e1] at e
  grind
theorem Sz.cosF {k : Nat} {z : Rat} (h : Sz k z) (h0 : 0 ≤ z) : Sz (2 * k + 8) (cosF z) := (Sz.div (Sz.sub (Sz.int 1 (by decide)) h) (Sz.add (Sz.int 1 (by decide)) h) (cosF_ne h0)).mono (by omega)
theorem cosF_anti {x y : Rat} (hx : 0 ≤ x) (h : x ≤ y) : cosF y ≤ cosF x := by
  have ex : cosF x * (1 + x) = 1 - x := by
    unfold cosF
    exact Rat.div_mul_cancel (cosF_ne hx)
  have ey : cosF y * (1 + y) = 1 - y := by
    unfold cosF
    exact Rat.div_mul_cancel (cosF_ne (Rat.le_trans hx h))
  apply Rat.not_lt.1
  intro hlt
  have h1 : 0 < cosF y - cosF x := by grind
  have h2 : 0 < 1 + x := by grind
  have h3 : 0 < 1 + y := by grind
  have h4 := Rat.mul_pos h1 (Rat.mul_pos h2 h3)
  have h5 : (cosF y - cosF x) * ((1 + x) * (1 + y)) = 2 * (x - y) := by grind
  rw [h5] at h4
  grind
def csL (p q : Rat) : Rat := cosF (sqH p q)
def csH (p q : Rat) : Rat := cosF (sqL p q)
theorem csL_sz {k : Nat} {p q : Rat} (hp : Sz k p) (hq : Sz k q) : Sz (4 * k + 14) (csL p q) := ((sqH_sz hp hq).cosF (sqH_nn p q)).mono (by omega)
theorem csH_sz {k : Nat} {p q : Rat} (hp : Sz k p) (hq : Sz k q) : Sz (4 * k + 14) (csH p q) := ((sqL_sz hp hq).cosF (sqL_nn p q)).mono (by omega)
/-- One extreme, if it is there. -/
def exL (p q e lo : Rat) : Rat := if p ≤ e ∧ e ≤ q then mn lo e else lo
def exH (p q e hi : Rat) : Rat := if p ≤ e ∧ e ≤ q then mx hi e else hi
def snL (p q : Rat) : Rat := exL p q ((1 : Int) : Rat) (exL p q ((-1 : Int) : Rat) (mn (sinQ p) (sinQ q)))
def snH (p q : Rat) : Rat := exH p q ((1 : Int) : Rat) (exH p q ((-1 : Int) : Rat) (mx (sinQ p) (sinQ q)))
theorem csL_le (p q : Rat) : csL p q ≤ csH p q := cosF_anti (sqL_nn p q) (sqL_le p q)
theorem exL_le (p q e lo : Rat) : exL p q e lo ≤ lo := by unfold exL; split; exact (mn_le lo e).1; exact Rat.le_refl
theorem le_exH (p q e hi : Rat) : hi ≤ exH p q e hi := by unfold exH; split; exact (le_mx hi e).1; exact Rat.le_refl
theorem snL_le (p q : Rat) : snL p q ≤ snH p q := by
  have h1 := exL_le p q ((1 : Int) : Rat) (exL p q ((-1 : Int) : Rat) (mn (sinQ p) (sinQ q)))
  have h2 := exL_le p q ((-1 : Int) : Rat) (mn (sinQ p) (sinQ q))
  have h3 := le_exH p q ((1 : Int) : Rat) (exH p q ((-1 : Int) : Rat) (mx (sinQ p) (sinQ q)))
  have h4 := le_exH p q ((-1 : Int) : Rat) (mx (sinQ p) (sinQ q))
  have h5 := (mn_le (sinQ p) (sinQ q)).1
  have h6 := (le_mx (sinQ p) (sinQ q)).1
  unfold snL snH
  grind
theorem exL_sz {k : Nat} {p q e lo : Rat} (h : Sz k lo) (he : Sz k e) : Sz k (exL p q e lo) := by unfold exL; split; exact szmn h he; exact h
theorem exH_sz {k : Nat} {p q e hi : Rat} (h : Sz k hi) (he : Sz k e) : Sz k (exH p q e hi) := by unfold exH; split; exact szmx h he; exact h
theorem snL_sz {k : Nat} {p q : Rat} (hp : Sz k p) (hq : Sz k q) : Sz (4 * k + 8) (snL p q) := exL_sz (exL_sz (szmn hp.sinQ hq.sinQ) ((Sz.int (-1) (by decide)).mono (by omega))) ((Sz.int 1 (by decide)).mono (by omega))
theorem snH_sz {k : Nat} {p q : Rat} (hp : Sz k p) (hq : Sz k q) : Sz (4 * k + 8) (snH p q) := exH_sz (exH_sz (szmx hp.sinQ hq.sinQ) ((Sz.int (-1) (by decide)).mono (by omega))) ((Sz.int 1 (by decide)).mono (by omega))
/-- A box that is turned. -/
def rtXL (o p q r s : Rat) : Rat := mulL (cosQ o) (cosQ o) p q - mulH (sinQ o) (sinQ o) r s
def rtXH (o p q r s : Rat) : Rat := mulH (cosQ o) (cosQ o) p q - mulL (sinQ o) (sinQ o) r s
def rtYL (o p q r s : Rat) : Rat := mulL (sinQ o) (sinQ o) p q + mulL (cosQ o) (cosQ o) r s
def rtYH (o p q r s : Rat) : Rat := mulH (sinQ o) (sinQ o) p q + mulH (cosQ o) (cosQ o) r s
/-- The box of a point. -/
def ptXL (p1 p3 q3 x y : Rat) : Rat := p1 + (mulL (csL p3 q3) (csH p3 q3) x x - mulH (snL p3 q3) (snH p3 q3) y y)
def ptXH (q1 p3 q3 x y : Rat) : Rat := q1 + (mulH (csL p3 q3) (csH p3 q3) x x - mulL (snL p3 q3) (snH p3 q3) y y)
def ptYL (p2 p3 q3 x y : Rat) : Rat := p2 + (mulL (snL p3 q3) (snH p3 q3) x x + mulL (csL p3 q3) (csH p3 q3) y y)
def ptYH (q2 p3 q3 x y : Rat) : Rat := q2 + (mulH (snL p3 q3) (snH p3 q3) x x + mulH (csL p3 q3) (csH p3 q3) y y)
end Go.Proofs.YtolekonocbeekaaDoor

namespace Go.Proofs.YtolekonocbeekaaDoor
open Go.RowKit
set_option linter.unusedVariables false
set_option maxRecDepth 100000

/-- A turn by t after one by a: the tangent of its half is the one by the other. -/
def tnQ (a t : Rat) : Rat := t + a
def tdQ (a t : Rat) : Rat := ((1 : Int) : Rat) - a * t
def tvQ (a t : Rat) : Rat := tnQ a t / tdQ a t
theorem tnQ_sz {j k : Nat} {a t : Rat} (ha : Sz j a) (ht : Sz k t) : Sz (j + k + 1) (tnQ a t) := (ht.add ha).mono (by omega)
theorem tdQ_sz {j k : Nat} {a t : Rat} (ha : Sz j a) (ht : Sz k t) : Sz (j + k + 4) (tdQ a t) := ((Sz.int 1 (by decide)).sub (ha.mul ht)).mono (by omega)
theorem tvQ_sz {j k : Nat} {a t : Rat} (ha : Sz j a) (ht : Sz k t) (h : tdQ a t ≠ 0) : Sz (2 * (j + k) + 5) (tvQ a t) := ((tnQ_sz ha ht).div (tdQ_sz ha ht) h).mono (by omega)
/-- Somewhere in the span the turn is a half one. -/
def tWide (a p q : Rat) : Bool := decide (cmpQ (tdQ a p) 0 * cmpQ (tdQ a q) 0 ≤ 0)
set_option maxHeartbeats 4000000 in
theorem cadd_any {j k : Nat} (t : Option Rat) (a : Option Rat) (n : Rat) (d : Rat) (w : World) (hk : j + k ≤ 9000) (Zt : Hid (SzO j t)) (Za : Hid (SzO k a)) (Fn : Hid (tnQ (valO a) (valO t) = n)) (Fd : Hid (tdQ (valO a) (valO t) = d)) (hT : Tb w) :
    Calls Tryd.prog 114 #[.agg #[.bool (sgO t), .string (nuO t), .string (deO t)], .agg #[.bool (sgO a), .string (nuO a), .string (deO a)]] w fun e w' => e = .returned (.tuple #[.agg #[.bool (sgO (some n)), .string (nuO (some n)), .string (deO (some n))], .agg #[.bool (sgO (some d)), .string (nuO (some d)), .string (deO (some d))]]) ∧ Below w.heap.size w w' := by
  have H := Lib.hid (Hp.start hT)
  clear hT
  have St : Hid (SmO t) := SzO.sm Zt (by omega)
  have Sa : Hid (SmO a) := SzO.sm Za (by omega)
  obtain ⟨o, Eo⟩ : ∃ z : Rat, Hid (((1 : Int) : Rat) = z) := ⟨_, rfl⟩
  have Zo : Hid (Sz 3 o) := szEq Eo (Sz.int (1) (by decide))
  have So : Hid (SmO (some o)) := Sz.o Zo (by omega)
  obtain ⟨m, Em⟩ : ∃ z : Rat, Hid ((valO a) * (valO t) = z) := ⟨_, rfl⟩
  have Zm : Hid (Sz (k + j) m) := szEq Em (Sz.mul Za Zt)
  have Sm : Hid (SmO (some m)) := Sz.o Zm (by omega)
  have En : Hid ((valO t) + (valO a) = n) := by have h0 := Fn.out; have h1 := Eo.out; have h2 := Em.out; subst_vars; rfl
  have Zn : Hid (Sz (j + k + 1) n) := szEq En (Sz.add Zt Za)
  have Sn : Hid (SmO (some n)) := Sz.o Zn (by omega)
  have Ed : Hid (o - m = d) := by have h0 := Fd.out; have h1 := Eo.out; have h2 := Em.out; subst_vars; rfl
  have Zd : Hid (Sz (3 + (k + j) + 1) d) := szEq Ed (Sz.sub Zo Zm)
  have Sd : Hid (SmO (some d)) := Sz.o Zd (by omega)
  go_enter Tryd.func114, Tryd.ntmps114
  go_wp2_with (first
      | ((with_reducible refine isBox ?_); refine bxA H ?_; clear H; intro _ _ H)
      | ((with_reducible refine isAlloc ?_); refine alA H ?_; clear H; intro _ _ H))
  refine wp_region_T 8 H (by kernel_rfl) (by kernel_rfl) ?_
  simp only [List.take_succ_cons, List.take_zero, List.drop_succ_cons, List.drop_zero]
  repeat (first
      | ((with_reducible refine kLoad ?_); refine kldA H ?_))
  refine wpK_step (fun K hK => ?_)
  go_simp
  apply Exists.intro
  refine ⟨fun sx => ?_, hK _ ?_⟩
  · go_at_call 20
    exact RAdd_any t a n _ St Sa En (H.out.tbx sx)
  clear hK K
  refine wpK_step (fun K hK => ?_)
  go_simp
  apply Exists.intro
  refine ⟨fun sx => ?_, hK _ ?_⟩
  · go_at_call 35
    exact ROf_any (1) o _ (by decide) (by decide) Eo (H.out.tbx sx)
  clear hK K
  repeat (first
      | ((with_reducible refine kLoad ?_); refine kldA H ?_))
  refine wpK_step (fun K hK => ?_)
  go_simp
  apply Exists.intro
  refine ⟨fun sx => ?_, hK _ ?_⟩
  · go_at_call 86
    exact RMul_any a t m _ Sa St Em (H.out.tbx sx)
  clear hK K
  refine wpK_step (fun K hK => ?_)
  go_simp
  apply Exists.intro
  refine ⟨fun sx => ?_, hK _ ?_⟩
  · go_at_call 19
    exact RSub_any (some o) (some m) d _ So Sm Ed (H.out.tbx sx)
  clear hK K
  refine wpKeep_nil ?_
  clear H
  intro _ H
  go_wp2_with (first
      | ((with_reducible refine isStore ?_); refine stA H ?_; clear H; intro _ H))
  exact bodyPost_ret (results_HH H Tryd.results114 (by (first | exact rRat | exact rSpan | exact rPose | exact rFrame | exact rVec | exact rTurn | exact rBox)) (by (first | exact rRat | exact rSpan | exact rPose | exact rFrame | exact rVec | exact rTurn | exact rBox)) rfl (by (repeat (first | exact List.Mem.head _ | refine List.Mem.tail _ ?_ | assumption))) rfl (by (repeat (first | exact List.Mem.head _ | refine List.Mem.tail _ ?_ | assumption))) (by rfl) (by rfl)) rfl ⟨rfl, H.out.bel⟩
end Go.Proofs.YtolekonocbeekaaDoor

namespace Go.Proofs.YtolekonocbeekaaDoor
open Go.RowKit
set_option linter.unusedVariables false
set_option maxRecDepth 100000

theorem gd_some {a b : Option Rat} {p q : Rat} (h : gdS a b = true) (hn : nmS a b = (p, q)) : a = some p ∧ b = some q := by
  unfold nmS at hn
  rw [if_pos h] at hn
  injection hn with h1 h2
  cases a with
  | none => cases h
  | some x =>
    cases b with
    | none => cases h
    | some y => exact ⟨congrArg some h1, congrArg some h2⟩
set_option maxHeartbeats 4000000 in
theorem ends_any {k : Nat} (a b : Option Rat) (p q : Rat) (w : World) (hk : k ≤ 9000) (A : Hid (Spn k a b p q)) (hT : Tb w) :
    Calls Tryd.prog 113 #[.agg #[.bool (sgO a), .string (nuO a), .string (deO a), .bool (sgO b), .string (nuO b), .string (deO b)]] w fun e w' => e = .returned (.tuple #[.agg #[.bool (sgO (some p)), .string (nuO (some p)), .string (deO (some p))], .agg #[.bool (sgO (some q)), .string (nuO (some q)), .string (deO (some q))]]) ∧ Below w.heap.size w w' := by
  have H := Lib.hid (Hp.start hT)
  clear hT
  have Zp : Hid (Sz k p) := A.out.zp
  have Sp : Hid (SmO (some p)) := Sz.o Zp (by omega)
  have Zq : Hid (Sz k q) := A.out.zq
  have Sq : Hid (SmO (some q)) := Sz.o Zq (by omega)
  by_cases hg : gdS a b = true
  · obtain ⟨rfl, rfl⟩ := gd_some hg A.out.n
    have HG := Lib.hid hg
    clear hg
    go_enter Tryd.func113, Tryd.ntmps113
    go_wp2_with (first
        | ((with_reducible refine isLoad ?_); refine ldA H ?_)
        | ((with_reducible refine isBox ?_); refine bxA H ?_; clear H; intro _ _ H)
        | ((with_reducible refine isAlloc ?_); refine alA H ?_; clear H; intro _ _ H))
    refine (spanGood_any (some p) (some q) true _ A.out.sa A.out.sb HG H.out.tb).mono ?_
    rintro _ _ ⟨rfl, hb⟩
    replace H := Lib.hid (H.out.go hb)
    clear hb
    go_wp2_with (first
        | go_skip)
    refine wp_region_P (vs := [.bool (sgO (some p)), .string (nuO (some p)), .string (deO (some p))]) 4 H (.tail .head) rfl (by kernel_rfl) (by kernel_rfl) rfl ?_
    simp only [List.take_succ_cons, List.take_zero, List.drop_succ_cons, List.drop_zero]
    repeat (first
        | ((with_reducible refine kzLoad ?_); refine wpKZ_loadH H rfl (by (first | exact wanted_none rfl | exact wanted_some rfl rfl)) (by (first | exact rRat | exact rSpan | exact rPose | exact rFrame | exact rVec | exact rTurn | exact rBox)) (by rfl) (by (repeat (first | exact List.Mem.head _ | refine List.Mem.tail _ ?_ | assumption))) (by (have h := H.out.nd; simp only [List.map_cons, List.map_nil, List.nodup_cons, List.mem_cons, List.not_mem_nil, or_false, not_or] at h; omega)) (by (simp only [List.drop, List.take]); rfl) (by rfl) ?_; (simp only [Act.put, List.setIfInBounds_toArray, List.set_cons_succ, List.set_cons_zero]))
        | ((fail_if_success (with_reducible refine kzCall ?_)); (with_reducible refine kzCons ?_); refine wpKZ_step (fun K hK => ?_); go_simp; refine hK _ ?_; clear hK K))
    refine wpKeepZ_nil ⟨⟨⟨_, _, _, rfl, by (first | exact rRat | exact rSpan | exact rPose | exact rFrame | exact rVec | exact rTurn | exact rBox), rfl, rfl⟩, rfl, rfl, rfl, rfl⟩, ?_⟩
    clear H
    intro _ H
    go_wp2_with (first
        | ((with_reducible refine isStore ?_); refine stA H ?_; clear H; intro _ H))
    exact bodyPost_ret (results_HH H Tryd.results113 (by (first | exact rRat | exact rSpan | exact rPose | exact rFrame | exact rVec | exact rTurn | exact rBox)) (by (first | exact rRat | exact rSpan | exact rPose | exact rFrame | exact rVec | exact rTurn | exact rBox)) rfl (by (repeat (first | exact List.Mem.head _ | refine List.Mem.tail _ ?_ | assumption))) rfl (by (repeat (first | exact List.Mem.head _ | refine List.Mem.tail _ ?_ | assumption))) (by rfl) (by rfl)) rfl ⟨rfl, H.out.bel⟩
  · have HG : Hid (gdS a b = false) := by cases h : gdS a b with | false => rfl | true => exact absurd h hg
    have E1 : Hid (((0 : Int) : Rat) = p) := by have h := A.out.n; unfold nmS at h; rw [HG.out] at h; exact congrArg Prod.fst h
    have E2 : Hid (((0 : Int) : Rat) = q) := by have h := A.out.n; unfold nmS at h; rw [HG.out] at h; exact congrArg Prod.snd h
    clear hg
    go_enter Tryd.func113, Tryd.ntmps113
    go_wp2_with (first
        | ((with_reducible refine isLoad ?_); refine ldA H ?_)
        | ((with_reducible refine isBox ?_); refine bxA H ?_; clear H; intro _ _ H)
        | ((with_reducible refine isAlloc ?_); refine alA H ?_; clear H; intro _ _ H))
    refine (spanGood_any a b false _ A.out.sa A.out.sb HG H.out.tb).mono ?_
    rintro _ _ ⟨rfl, hb⟩
    replace H := Lib.hid (H.out.go hb)
    clear hb
    go_wp2_with (first
        | go_skip)
    refine (ROf_any 0 p _ (by decide) (by decide) E1 H.out.tb).mono ?_
    rintro _ _ ⟨rfl, hb⟩
    replace H := Lib.hid (H.out.go hb)
    clear hb
    go_wp2_with (first
        | go_skip)
    refine (ROf_any 0 q _ (by decide) (by decide) E2 H.out.tb).mono ?_
    rintro _ _ ⟨rfl, hb⟩
    replace H := Lib.hid (H.out.go hb)
    clear hb
    go_wp2_with (first
        | ((with_reducible refine isStore ?_); refine stA H ?_; clear H; intro _ H))
    exact bodyPost_ret (results_HH H Tryd.results113 (by (first | exact rRat | exact rSpan | exact rPose | exact rFrame | exact rVec | exact rTurn | exact rBox)) (by (first | exact rRat | exact rSpan | exact rPose | exact rFrame | exact rVec | exact rTurn | exact rBox)) rfl (by (repeat (first | exact List.Mem.head _ | refine List.Mem.tail _ ?_ | assumption))) rfl (by (repeat (first | exact List.Mem.head _ | refine List.Mem.tail _ ?_ | assumption))) (by rfl) (by rfl)) rfl ⟨rfl, H.out.bel⟩
end Go.Proofs.YtolekonocbeekaaDoor

namespace Go.Proofs.YtolekonocbeekaaDoor
open Go.RowKit
set_option linter.unusedVariables false
set_option maxRecDepth 100000

theorem sgn_wrap {m n : Int} (hm : -1 ≤ m ∧ m ≤ 1) (hn : -1 ≤ n ∧ n ≤ 1) : IntKind.i64.wrap (m * n) = m * n := by
  obtain ⟨h1, h2⟩ := hm
  obtain ⟨h3, h4⟩ := hn
  rcases (show m = -1 ∨ m = 0 ∨ m = 1 by omega) with rfl | rfl | rfl <;> rcases (show n = -1 ∨ n = 0 ∨ n = 1 by omega) with rfl | rfl | rfl <;> decide
theorem sgn_ne1 {d e : Rat} {m n : Int} (h1 : cmpQ d 0 = m) (h2 : cmpQ e 0 = n) (h : decide (m * n ≤ 0) = false) : d ≠ 0 := fun e0 => by
  subst e0
  rw [cmpQ_eq.2 rfl] at h1
  subst h1
  simp at h
theorem sgn_ne2 {d e : Rat} {m n : Int} (h1 : cmpQ d 0 = m) (h2 : cmpQ e 0 = n) (h : decide (m * n ≤ 0) = false) : e ≠ 0 := fun e0 => by
  subst e0
  rw [cmpQ_eq.2 rfl] at h2
  subst h2
  simp at h
set_option maxHeartbeats 4000000 in
theorem turned_ok {j k : Nat} (a b : Option Rat) (p q : Rat) (r : Option Rat) (x : Rat) (y : Rat) (w : World) (hk : j + k ≤ 4000) (A : Hid (Spn k a b p q)) (Zr : Hid (SzO j r)) (G : Hid (tWide (valO r) p q = false)) (Fx : Hid (tvQ (valO r) p = x)) (Fy : Hid (tvQ (valO r) q = y)) (hT : Tb w) :
    Calls Tryd.prog 84 #[.agg #[.bool (sgO a), .string (nuO a), .string (deO a), .bool (sgO b), .string (nuO b), .string (deO b)], .agg #[.bool (sgO r), .string (nuO r), .string (deO r)]] w fun e w' => e = .returned (.tuple #[.agg #[.bool (sgO (some x)), .string (nuO (some x)), .string (deO (some x)), .bool (sgO (some y)), .string (nuO (some y)), .string (deO (some y))], .int .i64 0]) ∧ Below w.heap.size w w' := by
  have H := Lib.hid (Hp.start hT)
  clear hT
  have Zp : Hid (Sz k p) := A.out.zp
  have Sp : Hid (SmO (some p)) := Sz.o Zp (by omega)
  have Zq : Hid (Sz k q) := A.out.zq
  have Sq : Hid (SmO (some q)) := Sz.o Zq (by omega)
  have Sr : Hid (SmO r) := SzO.sm Zr (by omega)
  obtain ⟨n1, En1⟩ : ∃ z : Rat, Hid (tnQ (valO r) p = z) := ⟨_, rfl⟩
  have Zn1 : Hid (Sz (j + k + 1) n1) := szEq En1 (tnQ_sz Zr Zp)
  have Sn1 : Hid (SmO (some n1)) := Sz.o Zn1 (by omega)
  obtain ⟨d1, Ed1⟩ : ∃ z : Rat, Hid (tdQ (valO r) p = z) := ⟨_, rfl⟩
  have Zd1 : Hid (Sz (j + k + 4) d1) := szEq Ed1 (tdQ_sz Zr Zp)
  have Sd1 : Hid (SmO (some d1)) := Sz.o Zd1 (by omega)
  obtain ⟨k1, K1⟩ : ∃ z : Int, Hid (cmpQ (valO (some d1)) 0 = z) := ⟨_, rfl⟩
  obtain ⟨n2, En2⟩ : ∃ z : Rat, Hid (tnQ (valO r) q = z) := ⟨_, rfl⟩
  have Zn2 : Hid (Sz (j + k + 1) n2) := szEq En2 (tnQ_sz Zr Zq)
  have Sn2 : Hid (SmO (some n2)) := Sz.o Zn2 (by omega)
  obtain ⟨d2, Ed2⟩ : ∃ z : Rat, Hid (tdQ (valO r) q = z) := ⟨_, rfl⟩
  have Zd2 : Hid (Sz (j + k + 4) d2) := szEq Ed2 (tdQ_sz Zr Zq)
  have Sd2 : Hid (SmO (some d2)) := Sz.o Zd2 (by omega)
  obtain ⟨k2, K2⟩ : ∃ z : Int, Hid (cmpQ (valO (some d2)) 0 = z) := ⟨_, rfl⟩
  have hk1 := cmpQ_rng (valO (some d1)) 0
  have hk2 := cmpQ_rng (valO (some d2)) 0
  rw [K1.out] at hk1
  rw [K2.out] at hk2
  have GG : Hid (decide (k1 * k2 ≤ 0) = false) := by have h1 := Ed1.out; have h2 := Ed2.out; have h3 := G.out; rw [← K1.out, ← K2.out, ← h1, ← h2]; exact h3
  have hw : IntKind.i64.wrap (k1 * k2) = k1 * k2 := sgn_wrap hk1 hk2
  have hgg : decide (k1 * k2 ≤ 0) = false := GG.out
  clear hk1 hk2
  have N1 : Hid (valO (some d1) ≠ 0) := sgn_ne1 K1.out K2.out GG.out
  have N2 : Hid (valO (some d2) ≠ 0) := sgn_ne2 K1.out K2.out GG.out
  have Ex : Hid (n1 / d1 = x) := by have h0 := Fx.out; have h1 := En1.out; have h2 := Ed1.out; have h3 := En2.out; have h4 := Ed2.out; subst_vars; rfl
  have Zx : Hid (Sz ((j + k + 1) + (j + k + 4)) x) := szEq Ex (Sz.div Zn1 Zd1 N1)
  have Sx : Hid (SmO (some x)) := Sz.o Zx (by omega)
  have Ey : Hid (n2 / d2 = y) := by have h0 := Fy.out; have h1 := En1.out; have h2 := Ed1.out; have h3 := En2.out; have h4 := Ed2.out; subst_vars; rfl
  have Zy : Hid (Sz ((j + k + 1) + (j + k + 4)) y) := szEq Ey (Sz.div Zn2 Zd2 N2)
  have Sy : Hid (SmO (some y)) := Sz.o Zy (by omega)
  go_enter Tryd.func84, Tryd.ntmps84
  go_wp2_with (first
      | ((with_reducible refine isLoad ?_); refine ldA H ?_)
      | ((with_reducible refine isBox ?_); refine bxA H ?_; clear H; intro _ _ H)
      | ((with_reducible refine isAlloc ?_); refine alA H ?_; clear H; intro _ _ H))
  refine (ends_any a b p q _ (by omega) A H.out.tb).mono ?_
  rintro _ _ ⟨rfl, hb⟩
  replace H := Lib.hid (H.out.go hb)
  clear hb
  go_wp2_with (first
      | ((with_reducible refine isLoad ?_); refine ldA H ?_)
      | ((with_reducible refine isStore ?_); refine stA H ?_; clear H; intro _ H)
      | ((with_reducible refine isAlloc ?_); refine alA H ?_; clear H; intro _ _ H))
  refine (cadd_any (some p) r n1 d1 _ (by omega) Zp Zr En1 Ed1 H.out.tb).mono ?_
  rintro _ _ ⟨rfl, hb⟩
  replace H := Lib.hid (H.out.go hb)
  clear hb
  go_wp2_with (first
      | ((with_reducible refine isLoad ?_); refine ldA H ?_)
      | ((with_reducible refine isStore ?_); refine stA H ?_; clear H; intro _ H)
      | ((with_reducible refine isAlloc ?_); refine alA H ?_; clear H; intro _ _ H))
  refine (cadd_any (some q) r n2 d2 _ (by omega) Zq Zr En2 Ed2 H.out.tb).mono ?_
  rintro _ _ ⟨rfl, hb⟩
  replace H := Lib.hid (H.out.go hb)
  clear hb
  go_wp2_with (first
      | ((with_reducible refine isStore ?_); refine stA H ?_; clear H; intro _ H)
      | ((with_reducible refine isAlloc ?_); refine alA H ?_; clear H; intro _ _ H))
  refine wp_region_E H (by kernel_rfl) (by kernel_rfl) ?_
  repeat (first
      | ((with_reducible refine kLoad ?_); refine kldA H ?_))
  refine wpK_step (fun K hK => ?_)
  go_simp
  apply Exists.intro
  refine ⟨fun sx => ?_, hK _ ?_⟩
  · go_at_call 115
    exact RSign_any (some d1) k1 _ Sd1 K1 (H.out.tbx sx)
  clear hK K
  repeat (first
      | ((with_reducible refine kLoad ?_); refine kldA H ?_))
  refine wpK_step (fun K hK => ?_)
  go_simp
  apply Exists.intro
  refine ⟨fun sx => ?_, hK _ ?_⟩
  · go_at_call 115
    exact RSign_any (some d2) k2 _ Sd2 K2 (H.out.tbx sx)
  clear hK K
  repeat (first
      | ((fail_if_success (with_reducible refine kCall ?_)); (with_reducible refine kCons ?_); refine wpK_step (fun K hK => ?_); go_simp; refine hK _ ?_; clear hK K))
  refine wpKeep_nil ?_
  clear H
  intro _ H
  go_wp2_with (first
      | ((with_reducible refine isLoad ?_); refine ldA H ?_))
  refine (RDiv_any (some n1) (some d1) x _ Sn1 Sd1 N1 Ex H.out.tb).mono ?_
  rintro _ _ ⟨rfl, hb⟩
  replace H := Lib.hid (H.out.go hb)
  clear hb
  go_wp2_with (first
      | ((with_reducible refine isLoad ?_); refine ldA H ?_)
      | ((with_reducible refine isStore ?_); refine stA H ?_; clear H; intro _ H)
      | ((with_reducible refine isAlloc ?_); refine alA H ?_; clear H; intro _ _ H))
  refine (RDiv_any (some n2) (some d2) y _ Sn2 Sd2 N2 Ey H.out.tb).mono ?_
  rintro _ _ ⟨rfl, hb⟩
  replace H := Lib.hid (H.out.go hb)
  clear hb
  go_wp2_with (first
      | ((with_reducible refine isLoad ?_); refine ldA H ?_)
      | ((with_reducible refine isStore ?_); refine stA H ?_; clear H; intro _ H)
      | ((with_reducible refine isAlloc ?_); refine alA H ?_; clear H; intro _ _ H))
  exact bodyPost_ret (results_Hv H Tryd.results84 (by (first | exact rRat | exact rSpan | exact rPose | exact rFrame | exact rVec | exact rTurn | exact rBox)) rfl (by (repeat (first | exact List.Mem.head _ | refine List.Mem.tail _ ?_ | assumption))) (by rfl) (by rfl)) rfl ⟨rfl, H.out.bel⟩

set_option maxHeartbeats 4000000 in
theorem turned_wide {j k : Nat} (a b : Option Rat) (p q : Rat) (r : Option Rat) (w : World) (hk : j + k ≤ 4000) (A : Hid (Spn k a b p q)) (Zr : Hid (SzO j r)) (G : Hid (tWide (valO r) p q = true)) (hT : Tb w) :
    Calls Tryd.prog 84 #[.agg #[.bool (sgO a), .string (nuO a), .string (deO a), .bool (sgO b), .string (nuO b), .string (deO b)], .agg #[.bool (sgO r), .string (nuO r), .string (deO r)]] w fun e w' => e = .returned (.tuple #[.agg #[.bool false, .string ⟨#[]⟩, .string ⟨#[]⟩, .bool false, .string ⟨#[]⟩, .string ⟨#[]⟩], .int .i64 18]) ∧ Below w.heap.size w w' := by
  have H := Lib.hid (Hp.start hT)
  clear hT
  have Zp : Hid (Sz k p) := A.out.zp
  have Sp : Hid (SmO (some p)) := Sz.o Zp (by omega)
  have Zq : Hid (Sz k q) := A.out.zq
  have Sq : Hid (SmO (some q)) := Sz.o Zq (by omega)
  have Sr : Hid (SmO r) := SzO.sm Zr (by omega)
  obtain ⟨n1, En1⟩ : ∃ z : Rat, Hid (tnQ (valO r) p = z) := ⟨_, rfl⟩
  have Zn1 : Hid (Sz (j + k + 1) n1) := szEq En1 (tnQ_sz Zr Zp)
  have Sn1 : Hid (SmO (some n1)) := Sz.o Zn1 (by omega)
  obtain ⟨d1, Ed1⟩ : ∃ z : Rat, Hid (tdQ (valO r) p = z) := ⟨_, rfl⟩
  have Zd1 : Hid (Sz (j + k + 4) d1) := szEq Ed1 (tdQ_sz Zr Zp)
  have Sd1 : Hid (SmO (some d1)) := Sz.o Zd1 (by omega)
  obtain ⟨k1, K1⟩ : ∃ z : Int, Hid (cmpQ (valO (some d1)) 0 = z) := ⟨_, rfl⟩
  obtain ⟨n2, En2⟩ : ∃ z : Rat, Hid (tnQ (valO r) q = z) := ⟨_, rfl⟩
  have Zn2 : Hid (Sz (j + k + 1) n2) := szEq En2 (tnQ_sz Zr Zq)
  have Sn2 : Hid (SmO (some n2)) := Sz.o Zn2 (by omega)
  obtain ⟨d2, Ed2⟩ : ∃ z : Rat, Hid (tdQ (valO r) q = z) := ⟨_, rfl⟩
  have Zd2 : Hid (Sz (j + k + 4) d2) := szEq Ed2 (tdQ_sz Zr Zq)
  have Sd2 : Hid (SmO (some d2)) := Sz.o Zd2 (by omega)
  obtain ⟨k2, K2⟩ : ∃ z : Int, Hid (cmpQ (valO (some d2)) 0 = z) := ⟨_, rfl⟩
  have hk1 := cmpQ_rng (valO (some d1)) 0
  have hk2 := cmpQ_rng (valO (some d2)) 0
  rw [K1.out] at hk1
  rw [K2.out] at hk2
  have GG : Hid (decide (k1 * k2 ≤ 0) = true) := by have h1 := Ed1.out; have h2 := Ed2.out; have h3 := G.out; rw [← K1.out, ← K2.out, ← h1, ← h2]; exact h3
  have hw : IntKind.i64.wrap (k1 * k2) = k1 * k2 := sgn_wrap hk1 hk2
  have hgg : decide (k1 * k2 ≤ 0) = true := GG.out
  clear hk1 hk2
  go_enter Tryd.func84, Tryd.ntmps84
  go_wp2_with (first
      | ((with_reducible refine isLoad ?_); refine ldA H ?_)
      | ((with_reducible refine isBox ?_); refine bxA H ?_; clear H; intro _ _ H)
      | ((with_reducible refine isAlloc ?_); refine alA H ?_; clear H; intro _ _ H))
  refine (ends_any a b p q _ (by omega) A H.out.tb).mono ?_
  rintro _ _ ⟨rfl, hb⟩
  replace H := Lib.hid (H.out.go hb)
  clear hb
  go_wp2_with (first
      | ((with_reducible refine isLoad ?_); refine ldA H ?_)
      | ((with_reducible refine isStore ?_); refine stA H ?_; clear H; intro _ H)
      | ((with_reducible refine isAlloc ?_); refine alA H ?_; clear H; intro _ _ H))
  refine (cadd_any (some p) r n1 d1 _ (by omega) Zp Zr En1 Ed1 H.out.tb).mono ?_
  rintro _ _ ⟨rfl, hb⟩
  replace H := Lib.hid (H.out.go hb)
  clear hb
  go_wp2_with (first
      | ((with_reducible refine isLoad ?_); refine ldA H ?_)
      | ((with_reducible refine isStore ?_); refine stA H ?_; clear H; intro _ H)
      | ((with_reducible refine isAlloc ?_); refine alA H ?_; clear H; intro _ _ H))
  refine (cadd_any (some q) r n2 d2 _ (by omega) Zq Zr En2 Ed2 H.out.tb).mono ?_
  rintro _ _ ⟨rfl, hb⟩
  replace H := Lib.hid (H.out.go hb)
  clear hb
  go_wp2_with (first
      | ((with_reducible refine isStore ?_); refine stA H ?_; clear H; intro _ H)
      | ((with_reducible refine isAlloc ?_); refine alA H ?_; clear H; intro _ _ H))
  refine wp_region_E H (by kernel_rfl) (by kernel_rfl) ?_
  repeat (first
      | ((with_reducible refine kLoad ?_); refine kldA H ?_))
  refine wpK_step (fun K hK => ?_)
  go_simp
  apply Exists.intro
  refine ⟨fun sx => ?_, hK _ ?_⟩
  · go_at_call 115
    exact RSign_any (some d1) k1 _ Sd1 K1 (H.out.tbx sx)
  clear hK K
  repeat (first
      | ((with_reducible refine kLoad ?_); refine kldA H ?_))
  refine wpK_step (fun K hK => ?_)
  go_simp
  apply Exists.intro
  refine ⟨fun sx => ?_, hK _ ?_⟩
  · go_at_call 115
    exact RSign_any (some d2) k2 _ Sd2 K2 (H.out.tbx sx)
  clear hK K
  repeat (first
      | ((fail_if_success (with_reducible refine kCall ?_)); (with_reducible refine kCons ?_); refine wpK_step (fun K hK => ?_); go_simp; refine hK _ ?_; clear hK K))
  refine wpKeep_nil ?_
  clear H
  intro _ H
  go_wp2_with (first
      | ((with_reducible refine isStore ?_); refine stA H ?_; clear H; intro _ H))
  exact bodyPost_ret (results_Hv H Tryd.results84 (by (first | exact rRat | exact rSpan | exact rPose | exact rFrame | exact rVec | exact rTurn | exact rBox)) rfl (by (repeat (first | exact List.Mem.head _ | refine List.Mem.tail _ ?_ | assumption))) (by rfl) (by rfl)) rfl ⟨rfl, H.out.bel⟩
end Go.Proofs.YtolekonocbeekaaDoor

namespace Go.Proofs.YtolekonocbeekaaDoor
open Go.RowKit
set_option linter.unusedVariables false
set_option maxRecDepth 100000

set_option maxHeartbeats 4000000 in
theorem inBox_true {k : Nat} (xl yl xh yh x y : Rat) (w : World) (hk : k ≤ 9000) (Zxl : Hid (Sz k xl)) (Zyl : Hid (Sz k yl)) (Zxh : Hid (Sz k xh)) (Zyh : Hid (Sz k yh)) (Zx : Hid (Sz k x)) (Zy : Hid (Sz k y)) (L1 : Hid (xl ≤ x)) (L2 : Hid (x ≤ xh)) (L3 : Hid (yl ≤ y)) (L4 : Hid (y ≤ yh)) (hT : Tb w) :
    Calls Tryd.prog 28 #[.agg #[.bool (sgO (some xl)), .string (nuO (some xl)), .string (deO (some xl)), .bool (sgO (some yl)), .string (nuO (some yl)), .string (deO (some yl)), .bool (sgO (some xh)), .string (nuO (some xh)), .string (deO (some xh)), .bool (sgO (some yh)), .string (nuO (some yh)), .string (deO (some yh))], .agg #[.bool (sgO (some x)), .string (nuO (some x)), .string (deO (some x)), .bool (sgO (some y)), .string (nuO (some y)), .string (deO (some y))]] w fun e w' => e = .returned (.bool true) ∧ Below w.heap.size w w' := by
  have H := Lib.hid (Hp.start hT)
  clear hT
  have Sxl : Hid (SmO (some xl)) := Sz.o Zxl (by omega)
  have Syl : Hid (SmO (some yl)) := Sz.o Zyl (by omega)
  have Sxh : Hid (SmO (some xh)) := Sz.o Zxh (by omega)
  have Syh : Hid (SmO (some yh)) := Sz.o Zyh (by omega)
  have Sx : Hid (SmO (some x)) := Sz.o Zx (by omega)
  have Sy : Hid (SmO (some y)) := Sz.o Zy (by omega)
  obtain ⟨k1, K1⟩ : ∃ z, Hid (cmpQ (valO (some xl)) (valO (some x)) = z) := ⟨_, rfl⟩
  have D1 : decide (k1 ≤ 0) = true := decide_eq_true (by rw [← K1.out]; exact cmpQ_le.2 L1.out)
  obtain ⟨k2, K2⟩ : ∃ z, Hid (cmpQ (valO (some x)) (valO (some xh)) = z) := ⟨_, rfl⟩
  have D2 : decide (k2 ≤ 0) = true := decide_eq_true (by rw [← K2.out]; exact cmpQ_le.2 L2.out)
  obtain ⟨k3, K3⟩ : ∃ z, Hid (cmpQ (valO (some yl)) (valO (some y)) = z) := ⟨_, rfl⟩
  have D3 : decide (k3 ≤ 0) = true := decide_eq_true (by rw [← K3.out]; exact cmpQ_le.2 L3.out)
  obtain ⟨k4, K4⟩ : ∃ z, Hid (cmpQ (valO (some y)) (valO (some yh)) = z) := ⟨_, rfl⟩
  have D4 : decide (k4 ≤ 0) = true := decide_eq_true (by rw [← K4.out]; exact cmpQ_le.2 L4.out)
  go_enter Tryd.func28, Tryd.ntmps28
  go_wp2_with (first
      | ((with_reducible refine isLoad ?_); refine ldA H ?_)
      | ((with_reducible refine isBox ?_); refine bxA H ?_; clear H; intro _ _ H))
  refine (RCmp_any (some xl) (some x) k1 _ Sxl Sx K1 H.out.tb).mono ?_
  rintro _ _ ⟨rfl, hb⟩
  replace H := Lib.hid (H.out.go hb)
  clear hb
  go_wp2_with (first
      | ((with_reducible refine isLoad ?_); refine ldA H ?_))
  refine (RCmp_any (some x) (some xh) k2 _ Sx Sxh K2 H.out.tb).mono ?_
  rintro _ _ ⟨rfl, hb⟩
  replace H := Lib.hid (H.out.go hb)
  clear hb
  go_wp2_with (first
      | ((with_reducible refine isLoad ?_); refine ldA H ?_))
  refine (RCmp_any (some yl) (some y) k3 _ Syl Sy K3 H.out.tb).mono ?_
  rintro _ _ ⟨rfl, hb⟩
  replace H := Lib.hid (H.out.go hb)
  clear hb
  go_wp2_with (first
      | ((with_reducible refine isLoad ?_); refine ldA H ?_))
  refine (RCmp_any (some y) (some yh) k4 _ Sy Syh K4 H.out.tb).mono ?_
  rintro _ _ ⟨rfl, hb⟩
  replace H := Lib.hid (H.out.go hb)
  clear hb
  go_wp2_with (first
      | go_skip)
  go_ret
  exact ⟨rfl, H.out.bel⟩
end Go.Proofs.YtolekonocbeekaaDoor

namespace Go.Proofs.YtolekonocbeekaaDoor
open Go.RowKit
set_option linter.unusedVariables false
set_option maxRecDepth 100000

set_option maxHeartbeats 4000000 in
theorem wide_any {j m : Nat} (a b : Option Rat) (p q : Rat) (r : Option Rat) (u : Rat) (v : Rat) (w : World) (hk : j + m ≤ 9000) (A : Hid (Spn j a b p q)) (Zr : Hid (SzO m r)) (Fu : Hid (p - mx (valO r) ((0 : Int) : Rat) = u)) (Fv : Hid (q + mx (valO r) ((0 : Int) : Rat) = v)) (hT : Tb w) :
    Calls Tryd.prog 77 #[.agg #[.bool (sgO a), .string (nuO a), .string (deO a), .bool (sgO b), .string (nuO b), .string (deO b)], .agg #[.bool (sgO r), .string (nuO r), .string (deO r)]] w fun e w' => e = .returned (.agg #[.bool (sgO (some u)), .string (nuO (some u)), .string (deO (some u)), .bool (sgO (some v)), .string (nuO (some v)), .string (deO (some v))]) ∧ Below w.heap.size w w' := by
  have H := Lib.hid (Hp.start hT)
  clear hT
  have Zp : Hid (Sz j p) := A.out.zp
  have Sp : Hid (SmO (some p)) := Sz.o Zp (by omega)
  have Zq : Hid (Sz j q) := A.out.zq
  have Sq : Hid (SmO (some q)) := Sz.o Zq (by omega)
  have Sr : Hid (SmO r) := SzO.sm Zr (by omega)
  obtain ⟨o, Eo⟩ : ∃ z : Rat, Hid (((0 : Int) : Rat) = z) := ⟨_, rfl⟩
  have Zo : Hid (Sz 3 o) := szEq Eo (Sz.int (0) (by decide))
  have So : Hid (SmO (some o)) := Sz.o Zo (by omega)
  obtain ⟨y, Ey⟩ : ∃ z : Rat, Hid (mx (valO r) ((0 : Int) : Rat) = z) := ⟨_, rfl⟩
  have Zy : Hid (Sz (max m 3) y) := szEq Ey (szmx (Sz.mono Zr (Nat.le_max_left m 3)) (Sz.mono (Sz.int 0 (by decide)) (Nat.le_max_right m 3)))
  have Sy : Hid (SmO (some y)) := Sz.o Zy (by omega)
  have Ey2 : Hid (mx (valO r) (valO (some o)) = y) := by have h := Ey.out; have h2 := Eo.out; subst h2; exact h
  have Eu : Hid (p - y = u) := by have h0 := Fu.out; have h1 := Eo.out; have h2 := Ey.out; subst_vars; rfl
  have Zu : Hid (Sz (j + (max m 3) + 1) u) := szEq Eu (Sz.sub Zp Zy)
  have Su : Hid (SmO (some u)) := Sz.o Zu (by omega)
  have Ev : Hid (q + y = v) := by have h0 := Fv.out; have h1 := Eo.out; have h2 := Ey.out; subst_vars; rfl
  have Zv : Hid (Sz (j + (max m 3) + 1) v) := szEq Ev (Sz.add Zq Zy)
  have Sv : Hid (SmO (some v)) := Sz.o Zv (by omega)
  go_enter Tryd.func77, Tryd.ntmps77
  go_wp2_with (first
      | ((with_reducible refine isBox ?_); refine bxA H ?_; clear H; intro _ _ H)
      | ((with_reducible refine isAlloc ?_); refine alA H ?_; clear H; intro _ _ H))
  refine wp_region_T 5 H (by kernel_rfl) (by kernel_rfl) ?_
  simp only [List.take_succ_cons, List.take_zero, List.drop_succ_cons, List.drop_zero]
  repeat (first
      | ((with_reducible refine kLoad ?_); refine kldA H ?_))
  refine wpK_step (fun K hK => ?_)
  go_simp
  apply Exists.intro
  refine ⟨fun sx => ?_, hK _ ?_⟩
  · go_at_call 61
    exact norm_any a b p q _ A.out.sa A.out.sb A.out.n (H.out.tbx sx)
  clear hK K
  repeat (first
      | ((with_reducible refine kLoad ?_); refine kldA H ?_))
  refine wpK_step (fun K hK => ?_)
  go_simp
  apply Exists.intro
  refine ⟨fun sx => ?_, hK _ ?_⟩
  · go_at_call 35
    exact ROf_any (0) o _ (by decide) (by decide) Eo (H.out.tbx sx)
  clear hK K
  refine wpK_step (fun K hK => ?_)
  go_simp
  apply Exists.intro
  refine ⟨fun sx => ?_, hK _ ?_⟩
  · go_at_call 57
    exact RMax_any r (some o) y _ Sr So Ey2 (H.out.tbx sx)
  clear hK K
  refine wpKeep_nil ?_
  clear H
  intro _ H
  go_wp2_with (first
      | ((with_reducible refine isStore ?_); refine stA H ?_; clear H; intro _ H))
  refine wp_region_T 9 H (by kernel_rfl) (by kernel_rfl) ?_
  simp only [List.take_succ_cons, List.take_zero, List.drop_succ_cons, List.drop_zero]
  repeat (first
      | ((with_reducible refine kLoad ?_); refine kldA H ?_)
      | ((fail_if_success (with_reducible refine kCall ?_)); (with_reducible refine kCons ?_); refine wpK_step (fun K hK => ?_); go_simp; refine hK _ ?_; clear hK K))
  refine wpK_step (fun K hK => ?_)
  go_simp
  apply Exists.intro
  refine ⟨fun sx => ?_, hK _ ?_⟩
  · go_at_call 19
    exact RSub_any (some p) (some y) u _ Sp Sy Eu (H.out.tbx sx)
  clear hK K
  repeat (first
      | ((with_reducible refine kLoad ?_); refine kldA H ?_)
      | ((fail_if_success (with_reducible refine kCall ?_)); (with_reducible refine kCons ?_); refine wpK_step (fun K hK => ?_); go_simp; refine hK _ ?_; clear hK K))
  refine wpK_step (fun K hK => ?_)
  go_simp
  apply Exists.intro
  refine ⟨fun sx => ?_, hK _ ?_⟩
  · go_at_call 20
    exact RAdd_any (some q) (some y) v _ Sq Sy Ev (H.out.tbx sx)
  clear hK K
  repeat (first
      | ((fail_if_success (with_reducible refine kCall ?_)); (with_reducible refine kCons ?_); refine wpK_step (fun K hK => ?_); go_simp; refine hK _ ?_; clear hK K))
  refine wpKeep_nil ?_
  clear H
  intro _ H
  go_wp2_with (first
      | ((with_reducible refine isStore ?_); refine stA H ?_; clear H; intro _ H))
  exact bodyPost_ret (results_H H Tryd.results77 (by (first | exact rRat | exact rSpan | exact rPose | exact rFrame | exact rVec | exact rTurn | exact rBox)) rfl (by (repeat (first | exact List.Mem.head _ | refine List.Mem.tail _ ?_ | assumption))) (by rfl)) rfl ⟨rfl, H.out.bel⟩
end Go.Proofs.YtolekonocbeekaaDoor

namespace Go.Proofs.YtolekonocbeekaaDoor
open Go.RowKit
set_option linter.unusedVariables false
set_option maxRecDepth 100000

set_option maxHeartbeats 4000000 in
theorem Widen_any {j i m : Nat} (a1 b1 : Option Rat) (p1 q1 : Rat) (a2 b2 : Option Rat) (p2 q2 : Rat) (a3 b3 : Option Rat) (p3 q3 : Rat) (r : Option Rat) (t : Option Rat) (u1 v1 : Rat) (u2 v2 : Rat) (u3 v3 : Rat) (w : World) (hk : j + m ≤ 9000 ∧ i + m ≤ 9000) (A1 : Hid (Spn j a1 b1 p1 q1)) (A2 : Hid (Spn j a2 b2 p2 q2)) (A3 : Hid (Spn i a3 b3 p3 q3)) (Zr : Hid (SzO m r)) (Zt : Hid (SzO m t)) (Eu1 : Hid (p1 - mx (valO r) ((0 : Int) : Rat) = u1)) (Ev1 : Hid (q1 + mx (valO r) ((0 : Int) : Rat) = v1)) (Eu2 : Hid (p2 - mx (valO r) ((0 : Int) : Rat) = u2)) (Ev2 : Hid (q2 + mx (valO r) ((0 : Int) : Rat) = v2)) (Eu3 : Hid (p3 - mx (valO t) ((0 : Int) : Rat) = u3)) (Ev3 : Hid (q3 + mx (valO t) ((0 : Int) : Rat) = v3)) (hT : Tb w) :
    Calls Tryd.prog 36 #[.agg #[.bool (sgO a1), .string (nuO a1), .string (deO a1), .bool (sgO b1), .string (nuO b1), .string (deO b1), .bool (sgO a2), .string (nuO a2), .string (deO a2), .bool (sgO b2), .string (nuO b2), .string (deO b2), .bool (sgO a3), .string (nuO a3), .string (deO a3), .bool (sgO b3), .string (nuO b3), .string (deO b3)], .agg #[.bool (sgO r), .string (nuO r), .string (deO r)], .agg #[.bool (sgO t), .string (nuO t), .string (deO t)]] w fun e w' => e = .returned (.agg #[.bool (sgO (some u1)), .string (nuO (some u1)), .string (deO (some u1)), .bool (sgO (some v1)), .string (nuO (some v1)), .string (deO (some v1)), .bool (sgO (some u2)), .string (nuO (some u2)), .string (deO (some u2)), .bool (sgO (some v2)), .string (nuO (some v2)), .string (deO (some v2)), .bool (sgO (some u3)), .string (nuO (some u3)), .string (deO (some u3)), .bool (sgO (some v3)), .string (nuO (some v3)), .string (deO (some v3))]) ∧ Below w.heap.size w w' := by
  have H := Lib.hid (Hp.start hT)
  clear hT
  have Zp1 : Hid (Sz j p1) := A1.out.zp
  have Sp1 : Hid (SmO (some p1)) := Sz.o Zp1 (by omega)
  have Zq1 : Hid (Sz j q1) := A1.out.zq
  have Sq1 : Hid (SmO (some q1)) := Sz.o Zq1 (by omega)
  have Zp2 : Hid (Sz j p2) := A2.out.zp
  have Sp2 : Hid (SmO (some p2)) := Sz.o Zp2 (by omega)
  have Zq2 : Hid (Sz j q2) := A2.out.zq
  have Sq2 : Hid (SmO (some q2)) := Sz.o Zq2 (by omega)
  have Zp3 : Hid (Sz i p3) := A3.out.zp
  have Sp3 : Hid (SmO (some p3)) := Sz.o Zp3 (by omega)
  have Zq3 : Hid (Sz i q3) := A3.out.zq
  have Sq3 : Hid (SmO (some q3)) := Sz.o Zq3 (by omega)
  have Sr : Hid (SmO r) := SzO.sm Zr (by omega)
  have St : Hid (SmO t) := SzO.sm Zt (by omega)
  go_enter Tryd.func36, Tryd.ntmps36
  go_wp2_with (first
      | ((with_reducible refine isBox ?_); refine bxA H ?_; clear H; intro _ _ H)
      | ((with_reducible refine isAlloc ?_); refine alA H ?_; clear H; intro _ _ H))
  refine wp_region_T 13 H (by kernel_rfl) (by kernel_rfl) ?_
  simp only [List.take_succ_cons, List.take_zero, List.drop_succ_cons, List.drop_zero]
  repeat (first
      | ((with_reducible refine kLoad ?_); refine kldA H ?_)
      | ((fail_if_success (with_reducible refine kCall ?_)); (with_reducible refine kCons ?_); refine wpK_step (fun K hK => ?_); go_simp; refine hK _ ?_; clear hK K))
  refine wpK_step (fun K hK => ?_)
  go_simp
  apply Exists.intro
  refine ⟨fun sx => ?_, hK _ ?_⟩
  · go_at_call 77
    exact wide_any a1 b1 p1 q1 r u1 v1 _ (by omega) A1 Zr Eu1 Ev1 (H.out.tbx sx)
  clear hK K
  repeat (first
      | ((with_reducible refine kLoad ?_); refine kldA H ?_)
      | ((fail_if_success (with_reducible refine kCall ?_)); (with_reducible refine kCons ?_); refine wpK_step (fun K hK => ?_); go_simp; refine hK _ ?_; clear hK K))
  refine wpK_step (fun K hK => ?_)
  go_simp
  apply Exists.intro
  refine ⟨fun sx => ?_, hK _ ?_⟩
  · go_at_call 77
    exact wide_any a2 b2 p2 q2 r u2 v2 _ (by omega) A2 Zr Eu2 Ev2 (H.out.tbx sx)
  clear hK K
  repeat (first
      | ((with_reducible refine kLoad ?_); refine kldA H ?_)
      | ((fail_if_success (with_reducible refine kCall ?_)); (with_reducible refine kCons ?_); refine wpK_step (fun K hK => ?_); go_simp; refine hK _ ?_; clear hK K))
  refine wpK_step (fun K hK => ?_)
  go_simp
  apply Exists.intro
  refine ⟨fun sx => ?_, hK _ ?_⟩
  · go_at_call 77
    exact wide_any a3 b3 p3 q3 t u3 v3 _ (by omega) A3 Zt Eu3 Ev3 (H.out.tbx sx)
  clear hK K
  repeat (first
      | ((fail_if_success (with_reducible refine kCall ?_)); (with_reducible refine kCons ?_); refine wpK_step (fun K hK => ?_); go_simp; refine hK _ ?_; clear hK K))
  refine wpKeep_nil ?_
  clear H
  intro _ H
  go_wp2_with (first
      | ((with_reducible refine isStore ?_); refine stA H ?_; clear H; intro _ H))
  exact bodyPost_ret (results_H H Tryd.results36 (by (first | exact rRat | exact rSpan | exact rPose | exact rFrame | exact rVec | exact rTurn | exact rBox)) rfl (by (repeat (first | exact List.Mem.head _ | refine List.Mem.tail _ ?_ | assumption))) (by rfl)) rfl ⟨rfl, H.out.bel⟩
end Go.Proofs.YtolekonocbeekaaDoor
