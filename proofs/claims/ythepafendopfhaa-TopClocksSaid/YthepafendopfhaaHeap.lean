/- The blocks of a call as one list: every operation on structs is one law over it, in a plain region and in one that draws its order. No program but for the library's table. -/
import Derived.Test.YthepafendopfhaaBox
namespace Go.Proofs.Ythepafendopfhaa
open Go.RowKit
set_option linter.unusedVariables false

/-- No table of the library is needed. -/
def Tb (_ : World) : Prop := True
theorem Tb.below {w w' : World} (h : Tb w) (hb : Below w.heap.size w w') : Tb w' := trivial
abbrev Ents := List (Nat × TypeId × List Value)
/-- The call's own blocks; all that was there is as it was; the library's table is there. -/
structure Hp (w0 w : World) (l : Ents) : Prop where
  blk : ∀ x ∈ l, w0.heap.size ≤ x.1 ∧ Blk w x.1 x.2.1 x.2.2.toArray
  nd : (l.map (·.1)).Nodup
  bel : Below w0.heap.size w0 w
  t0 : Tb w0
theorem Hp.tb {w0 w : World} {l : Ents} (h : Hp w0 w l) : Tb w := h.t0.below h.bel
theorem Hp.tbx {w0 w : World} {l : Ents} (h : Hp w0 w l) (s : Ext w) : Tb s.to := h.tb.below s.h
theorem Hp.tbz {w0 w : World} {l : Ents} {z : Nat} (h : Hp w0 w l) (hz : w0.heap.size ≤ z) (s : ExtZ w z) : Tb s.to := h.t0.below (s.h.below h.bel hz h.bel.size)
theorem Hp.start {w : World} (h : Tb w) : Hp w w [] := ⟨(fun _ h => by cases h), List.Pairwise.nil, Below.refl _ _, h⟩
theorem Hp.go {w0 w w' : World} {l : Ents} (h : Hp w0 w l) (hb : Below w.heap.size w w') : Hp w0 w' l :=
  ⟨fun x hx => ⟨(h.blk x hx).1, (h.blk x hx).2.below hb (h.blk x hx).2.lt⟩, h.nd, h.bel.trans (hb.mono h.bel.size), h.t0⟩
theorem Hp.lt {w0 w : World} {l : Ents} (h : Hp w0 w l) {x : Nat × TypeId × List Value} (hx : x ∈ l) : x.1 < w.heap.size := (h.blk x hx).2.lt
theorem Hp.fresh {w0 w w' : World} {l : Ents} (h : Hp w0 w l) (hb : Below w.heap.size w w') {b : Nat} {t : TypeId} {cs : List Value} (hg : w.heap.size ≤ b) (hk : Blk w' b t cs.toArray) : Hp w0 w' ((b, t, cs) :: l) := by
  refine ⟨fun x hx => ?_, ?_, (h.go hb).bel, h.t0⟩
  · rcases List.mem_cons.1 hx with rfl | hx
    · exact ⟨Nat.le_trans h.bel.size hg, hk⟩
    · exact (h.go hb).blk x hx
  · rw [List.map_cons, List.nodup_cons]
    refine ⟨fun hm => ?_, h.nd⟩
    obtain ⟨x, hx, he⟩ := List.mem_map.1 hm
    have h1 := h.lt hx
    have h2 : x.1 = b := he
    omega
/-- One block's cells are others. -/
inductive Upd : Ents → Nat → TypeId → List Value → List Value → Ents → Prop
  | head {b : Nat} {T : TypeId} {cs ds : List Value} {l : Ents} : Upd ((b, T, cs) :: l) b T cs ds ((b, T, ds) :: l)
  | tail {b : Nat} {T : TypeId} {cs ds : List Value} {l l' : Ents} {x : Nat × TypeId × List Value} (h : Upd l b T cs ds l') : Upd (x :: l) b T cs ds (x :: l')
theorem Upd.mem {l l' : Ents} {b : Nat} {T : TypeId} {cs ds : List Value} (h : Upd l b T cs ds l') : (b, T, cs) ∈ l := by
  induction h with
  | head => exact .head _
  | tail _ ih => exact .tail _ ih
theorem Upd.fst {l l' : Ents} {b : Nat} {T : TypeId} {cs ds : List Value} (h : Upd l b T cs ds l') : l'.map (·.1) = l.map (·.1) := by
  induction h with
  | head => rfl
  | tail _ ih => rw [List.map_cons, List.map_cons, ih]
theorem Upd.all {l l' : Ents} {b : Nat} {T : TypeId} {cs ds : List Value} (h : Upd l b T cs ds l') {p q : Nat × TypeId × List Value → Prop} (hn : (l.map (·.1)).Nodup) (ho : ∀ x ∈ l, x.1 ≠ b → p x → q x) (hq : q (b, T, ds)) (hp : ∀ x ∈ l, p x) : ∀ x ∈ l', q x := by
  induction h with
  | head =>
    rw [List.map_cons, List.nodup_cons] at hn
    intro x hx
    rcases List.mem_cons.1 hx with rfl | hx
    · exact hq
    · exact ho x (.tail _ hx) (fun e => hn.1 (by rw [← e]; exact List.mem_map.2 ⟨x, hx, rfl⟩)) (hp x (.tail _ hx))
  | tail h ih =>
    rename_i y
    rw [List.map_cons, List.nodup_cons] at hn
    intro x hx
    rcases List.mem_cons.1 hx with rfl | hx
    · refine ho _ (.head _) (fun e => hn.1 ?_) (hp _ (.head _))
      rw [e]
      exact List.mem_map.2 ⟨_, h.mem, rfl⟩
    · exact ih hn.2 (fun x hx => ho x (.tail _ hx)) hq (fun x hx => hp x (.tail _ hx)) x hx
theorem Hp.stored {w0 w w' : World} {l l' : Ents} {b : Nat} {T : TypeId} {cs ds : List Value} (h : Hp w0 w l) (hu : Upd l b T cs ds l') (hz : BelowZ b w w') (hk : Blk w' b T ds.toArray) : Hp w0 w' l' := by
  have hb := (h.blk _ hu.mem).1
  refine ⟨?_, by rw [hu.fst]; exact h.nd, hz.below h.bel hb h.bel.size, h.t0⟩
  exact hu.all (p := fun x => w0.heap.size ≤ x.1 ∧ Blk w x.1 x.2.1 x.2.2.toArray) (q := fun x => w0.heap.size ≤ x.1 ∧ Blk w' x.1 x.2.1 x.2.2.toArray) h.nd (fun x hx hne hp => ⟨hp.1, hz.blk hp.2 hne⟩) ⟨hb, hk⟩ h.blk
theorem Hp.get {w0 w : World} {l : Ents} (h : Hp w0 w l) {b : Nat} {T : TypeId} {cs : List Value} (hm : (b, T, cs) ∈ l) : Hid (Blk w b T cs.toArray) := (h.blk _ hm).2

section
variable {P : Program} {ops : Array Oper} {rest : List Oper} {o : Oper} {a : Act} {w0 w : World} {l l' : Ents} {Q : Exit → Act → World → Prop}
theorem wpList_loadH (H : Hid (Hp w0 w l)) {t T : TypeId} {p : Operand} {b k n : Nat} {cs ds : List Value} (ho : o.op = .load t p) (hg : Region.wanted o (yielded ops a.tmps) = true) (hT : RowT P t n) (hp : a.eval p = .pointer (some ⟨b, k, none⟩))
    (hm : (b, T, cs) ∈ l) (hx : (cs.drop k).take n = ds) (hl : ds.length = n) (hK : wpList P ops Q rest (a.put o.dst (.agg ds.toArray)) w) : wpList P ops Q (o :: rest) a w :=
  wpList_loadB ho hg hT hp (H.out.get hm) (by simpa using hx) hl hK
theorem wpList_loadH1 (H : Hid (Hp w0 w l)) {t T : TypeId} {p : Operand} {b k : Nat} {cs : List Value} {v : Value} (ho : o.op = .load t p) (hg : Region.wanted o (yielded ops a.tmps) = true) (hT : ∃ d, P.underlying t = some d ∧ d.isRow = false) (hp : a.eval p = .pointer (some ⟨b, k, none⟩))
    (hm : (b, T, cs) ∈ l) (hx : cs[k]? = some v) (hK : wpList P ops Q rest (a.put o.dst v) w) : wpList P ops Q (o :: rest) a w :=
  wpList_loadC ho hg hT hp (H.out.get hm) (by simpa using hx) hK
theorem wpList_storeH (H : Hid (Hp w0 w l)) {t T : TypeId} {p x : Operand} {b k n : Nat} {cs vs ds : List Value} (ho : o.op = .store t p x) (hg : o.guard = none) (hd : o.dst = none) (hT : RowT P t n) (hp : a.eval p = .pointer (some ⟨b, k, none⟩)) (hx : a.eval x = .agg vs.toArray)
    (hu : Upd l b T cs ds l') (hl : vs.length = n) (hc : cs.take k ++ vs ++ cs.drop (k + n) = ds) (hk : k + n ≤ cs.length) (h1 : vs.all (·.oneCell') = true)
    (hK : ∀ W', Hid (Hp w0 W' l') → wpList P ops Q rest a W') : wpList P ops Q (o :: rest) a w :=
  wpList_storeB ho hg hd hT hp hx (H.out.get hu.mem) hl (by simpa using hk) h1 (by simpa using hc) fun W' hz hb => hK W' (H.out.stored hu hz hb.out)
theorem wpList_storeH1 (H : Hid (Hp w0 w l)) {t T : TypeId} {p x : Operand} {b k : Nat} {cs ds : List Value} {v : Value} (ho : o.op = .store t p x) (hg : o.guard = none) (hd : o.dst = none) (hT : (P.info? t).map (·.size) = some 1) (hp : a.eval p = .pointer (some ⟨b, k, none⟩)) (hx : a.eval x = v)
    (hu : Upd l b T cs ds l') (hc : cs.set k v = ds) (hk : k < cs.length) (h1 : v.oneCell' = true) (hv : v.cells = #[v])
    (hK : ∀ W', Hid (Hp w0 W' l') → wpList P ops Q rest a W') : wpList P ops Q (o :: rest) a w :=
  wpList_storeC ho hg hd hT hp hx (H.out.get hu.mem) (by simpa using hk) h1 hv (by simpa using hc) fun W' hz hb => hK W' (H.out.stored hu hz hb.out)
theorem wpList_boxH (H : Hid (Hp w0 w l)) {t : TypeId} {x : Operand} {d : Tmp} {v : Value} {cs : List Value} (ho : o.op = .box t x) (hg : o.guard = none) (hd : o.dst = some d) (hx : a.eval x = v) (hc : v.cells = cs.toArray)
    (hK : ∀ (b : Nat) W', Hid (Hp w0 W' ((b, t, cs) :: l)) → wpList P ops Q rest (a.put (some d) (.pointer (some ⟨b, 0, none⟩))) W') : wpList P ops Q (o :: rest) a w :=
  wpList_newB (cs := cs) (t := t) hg hd (fun W => by
    unfold execOp
    simp only [ho, hx]
    simp [go_sem]
    show W.alloc (.cells v.cells t) = _
    rw [hc]) fun b W' h1 h2 h3 => hK b W' (H.out.fresh h2 h1 h3.out)
theorem wpList_allocH (H : Hid (Hp w0 w l)) {t : TypeId} {d : Tmp} {z : Value} {cs : List Value} (ho : o.op = .alloc t) (hg : o.guard = none) (hd : o.dst = some d) (hz : (P.info? t).bind (·.zero) = some z) (hc : z.cells = cs.toArray)
    (hK : ∀ (b : Nat) W', Hid (Hp w0 W' ((b, t, cs) :: l)) → wpList P ops Q rest (a.put (some d) (.pointer (some ⟨b, 0, none⟩))) W') : wpList P ops Q (o :: rest) a w := by
  have hi : ∃ i, P.info? t = some i ∧ i.zero = some z := by
    cases hq : P.info? t with
    | none => simp [hq] at hz
    | some i => exact ⟨i, rfl, by simpa [hq] using hz⟩
  obtain ⟨i, hi1, hi2⟩ := hi
  exact wpList_newB (cs := cs) (t := t) hg hd (fun W => by
    unfold execOp
    simp only [ho]
    simp [go_sem, zeroValue, typeInfo, hi1, hi2]
    show W.alloc (.cells z.cells t) = _
    rw [hc]) fun b W' h1 h2 h3 => hK b W' (H.out.fresh h2 h1 h3.out)

/-! A region that draws its order: the head -/
theorem wpK_step {R : Act → Prop}
    (h : ∀ K : Act → Prop, (∀ a, wpKeep P ops w R rest a → K a) → if Region.wanted o (yielded ops a.tmps) then (∃ v, (∀ s : Ext w, Oper.quietUpon P (fun w'' => Below s.to.heap.size s.to w'') s.to v ((execOp a.eval o).run P s.to)) ∧ K (a.put o.dst v)) else K (a.put o.dst undef)) : wpKeep P ops w R (o :: rest) a := h _ (fun _ h => h)
theorem wpK_loadH (H : Hid (Hp w0 w l)) {R : Act → Prop} {t T : TypeId} {p : Operand} {b k n : Nat} {cs ds : List Value} (ho : o.op = .load t p) (hg : Region.wanted o (yielded ops a.tmps) = true) (hT : RowT P t n) (hp : a.eval p = .pointer (some ⟨b, k, none⟩))
    (hm : (b, T, cs) ∈ l) (hx : (cs.drop k).take n = ds) (hl : ds.length = n) (hK : wpKeep P ops w R rest (a.put o.dst (.agg ds.toArray))) : wpKeep P ops w R (o :: rest) a :=
  wpKeep_loadB ho hg hT hp (H.out.get hm) (by simpa using hx) hl hK
theorem run_loadC {t T : TypeId} {b k : Nat} {cs : Array Value} {v : Value} (hT : ∃ d, P.underlying t = some d ∧ d.isRow = false) (h : Blk w b T cs) (hx : cs[k]? = some v) : (Instr.loadAt t (.pointer (some ⟨b, k, none⟩))).run P w = .ok v w := by
  obtain ⟨d, h1, h2⟩ := hT
  have hc : w.cell? ⟨b, k, none⟩ = some v := by rw [h.cell]; exact hx
  have hagg : (isAgg t).run P w = .ok false w := by
    unfold isAgg
    rw [Sem.run_bind, run_underlying h1 w]
    cases d <;> simp_all
  simp only [Instr.loadAt, Instr.sureAddr, loadVar, Sem.run_bind, Sem.run_pure, Result.andThen_ok, hagg]
  simp [hc, go_sem]
theorem wpK_loadH1 (H : Hid (Hp w0 w l)) {R : Act → Prop} {t T : TypeId} {p : Operand} {b k : Nat} {cs : List Value} {v : Value} (ho : o.op = .load t p) (hg : Region.wanted o (yielded ops a.tmps) = true) (hT : ∃ d, P.underlying t = some d ∧ d.isRow = false) (hp : a.eval p = .pointer (some ⟨b, k, none⟩))
    (hm : (b, T, cs) ∈ l) (hx : cs[k]? = some v) (hK : wpKeep P ops w R rest (a.put o.dst v)) : wpKeep P ops w R (o :: rest) a := by
  unfold wpKeep
  rw [if_pos hg]
  refine ⟨v, fun s => ?_, hK⟩
  have hb : Blk s.to b T cs.toArray := (H.out.get hm).out.below s.h (H.out.get hm).out.lt
  have hr := run_loadC (P := P) (t := t) (k := k) hT hb (by simpa using hx)
  unfold keepsAt execOp
  simp only [ho, hp, hr, Sem.run_bind, Sem.run_pure, Result.andThen_ok]
  exact ⟨rfl, rfl⟩
theorem wpQuiet_of_keep {R : Act → Prop} : ∀ (l : List Oper) (a : Act), wpKeep P ops w R l a → wpQuiet P ops (fun w' => ∃ s : Ext w, w' = s.to) R l a
  | [], a, h => h
  | o :: rest, a, h => by
    unfold wpKeep at h
    unfold wpQuiet
    split
    · rename_i hw
      rw [if_pos hw] at h
      obtain ⟨v, h1, h2⟩ := h
      refine ⟨v, ?_, wpQuiet_of_keep rest _ h2⟩
      rintro _ ⟨s, rfl⟩
      exact quietUpon_mono (fun w' hb => ⟨⟨w', s.h.trans (hb.mono s.h.size)⟩, rfl⟩) (h1 s)
    · rename_i hw
      rw [if_neg hw] at h
      exact wpQuiet_of_keep rest _ h
/-- All operations read or call. -/
theorem wp_region_E {id : Nat} {ol : List Oper} (H : Hid (Hp w0 w l)) (hm : P.follows .mixedOrders = true) (hB : Region.lexB .any ol.toArray = true)
    (h : wpKeep P ol.toArray w (fun a' => ∀ W, Hid (Hp w0 W l) → Q .normal a' W) ol a) : (Code.region id ol.toArray true).wp P Q a w := by
  refine wp_region_ext hm hB (wpQuiet_of_keep ol a ?_)
  have mono : ∀ (l' : List Oper) (a : Act) {R R' : Act → Prop}, (∀ a, R a → R' a) → wpKeep P ol.toArray w R l' a → wpKeep P ol.toArray w R' l' a := by
    intro l'
    induction l' with
    | nil => intro a R R' hR h; exact hR _ h
    | cons o r ih =>
      intro a R R' hR h
      unfold wpKeep at h ⊢
      split
      · rename_i hw
        rw [if_pos hw] at h
        obtain ⟨v, h1, h2⟩ := h
        exact ⟨v, h1, ih _ hR h2⟩
      · rename_i hw
        rw [if_neg hw] at h
        exact ih _ hR h
  refine mono ol a (fun a' h1 w' hw' => ?_) h
  obtain ⟨s, rfl⟩ := hw'
  exact h1 _ (H.out.go s.h)
/-- n operations read or call; the rest comes in one forced order. -/
theorem wp_region_T {id : Nat} {ol : List Oper} (n : Nat) (H : Hid (Hp w0 w l)) (hm : P.follows .mixedOrders = true) (hB : Region.lexTailB .any ol.toArray n = true)
    (h : wpKeep P ol.toArray w (fun a' => ∀ W, Hid (Hp w0 W l) → wpList P ol.toArray Q (ol.drop n) a' W) (ol.take n) a) : (Code.region id ol.toArray true).wp P Q a w := by
  refine wp_region_fresh n [] hm (by simpa using hB) (by simp [AllAlloc]) ?_
  have mono : ∀ (l' : List Oper) (a : Act) {R R' : Act → Prop}, (∀ a, R a → R' a) → wpKeep P ol.toArray w R l' a → wpKeep P ol.toArray w R' l' a := by
    intro l'
    induction l' with
    | nil => intro a R R' hR h; exact hR _ h
    | cons o r ih =>
      intro a R R' hR h
      unfold wpKeep at h ⊢
      split
      · rename_i hw
        rw [if_pos hw] at h
        obtain ⟨v, h1, h2⟩ := h
        exact ⟨v, h1, ih _ hR h2⟩
      · rename_i hw
        rw [if_neg hw] at h
        exact ih _ hR h
  refine mono _ a (fun a' h1 => ?_) h
  simp only [List.length_nil, List.take_zero, wpNew, Nat.add_zero]
  intro W hW
  exact h1 W (H.out.go hW.1)
/-- .. a new block between. -/
theorem wp_region_F1 {id : Nat} {ol : List Oper} {o1 : Oper} {t : TypeId} {cs : List Value} (n : Nat) (H : Hid (Hp w0 w l)) (hm : P.follows .mixedOrders = true) (hB : Region.lexTailB .any ol.toArray (n + 1) = true)
    (ho : ol.drop n = o1 :: ol.drop (n + 1)) (hA : Allocs P ol.toArray o1 (.cells cs.toArray t))
    (h : wpKeep P ol.toArray w (fun a' => ∀ b W, Hid (Hp w0 W ((b, t, cs) :: l)) → wpList P ol.toArray Q (ol.drop (n + 1)) (a'.put o1.dst (.pointer (some ⟨b, 0, none⟩))) W) (ol.take n) a) : (Code.region id ol.toArray true).wp P Q a w := by
  refine wp_region_fresh n [.cells cs.toArray t] hm (by simpa using hB) (by rw [ho]; simp [AllAlloc, hA]) ?_
  have mono : ∀ (l' : List Oper) (a : Act) {R R' : Act → Prop}, (∀ a, R a → R' a) → wpKeep P ol.toArray w R l' a → wpKeep P ol.toArray w R' l' a := by
    intro l'
    induction l' with
    | nil => intro a R R' hR h; exact hR _ h
    | cons o r ih =>
      intro a R R' hR h
      unfold wpKeep at h ⊢
      split
      · rename_i hw
        rw [if_pos hw] at h
        obtain ⟨v, h1, h2⟩ := h
        exact ⟨v, h1, ih _ hR h2⟩
      · rename_i hw
        rw [if_neg hw] at h
        exact ih _ hR h
  refine mono _ a (fun a' h1 => ?_) h
  rw [ho]
  simp only [List.length_cons, List.length_nil, List.take_succ_cons, List.take_zero, wpNew, Nat.zero_add]
  intro g hg hn W hW
  exact h1 g W (H.out.fresh hW.1 hg (hW.2 g _ (.inl ⟨rfl, rfl⟩)))

/-! .. with a store that floats -/
theorem wpKZ_step {z : Nat} {R : Act → Prop}
    (h : ∀ K : Act → Prop, (∀ a, wpKeepZ P ops w z R rest a → K a) → if Region.wanted o (yielded ops a.tmps) then (∃ v, (∀ s : ExtZ w z, Oper.quietUpon P (fun w'' => Below s.to.heap.size s.to w'') s.to v ((execOp a.eval o).run P s.to)) ∧ K (a.put o.dst v)) else K (a.put o.dst undef)) : wpKeepZ P ops w z R (o :: rest) a := h _ (fun _ h => h)
theorem Upd.ne {l l' : Ents} {b z : Nat} {T U : TypeId} {cs ds es : List Value} (hu : Upd l z U ds es l') (hm : (b, T, cs) ∈ l) (hne : b ≠ z) : b ≠ z := hne
theorem wpKZ_loadH (H : Hid (Hp w0 w l)) {z : Nat} {R : Act → Prop} {t T : TypeId} {p : Operand} {b k n : Nat} {cs ds : List Value} (ho : o.op = .load t p) (hg : Region.wanted o (yielded ops a.tmps) = true) (hT : RowT P t n) (hp : a.eval p = .pointer (some ⟨b, k, none⟩))
    (hm : (b, T, cs) ∈ l) (hne : b ≠ z) (hx : (cs.drop k).take n = ds) (hl : ds.length = n) (hK : wpKeepZ P ops w z R rest (a.put o.dst (.agg ds.toArray))) : wpKeepZ P ops w z R (o :: rest) a :=
  wpKeepZ_loadB ho hg hT hp (H.out.get hm) hne (by simpa using hx) hl hK
/-- The store that floats writes a whole struct. -/
structure StoreOK (P : Program) (os : Oper) (a : Act) (z n : Nat) (vs : List Value) : Prop where
  op : ∃ t p x, os.op = .store t p x ∧ RowT P t n ∧ a.eval p = .pointer (some ⟨z, 0, none⟩) ∧ a.eval x = .agg vs.toArray
  g : os.guard = none
  d : os.dst = none
  l : vs.length = n
  o : vs.all (·.oneCell') = true
theorem wp_region_P {id : Nat} {ol : List Oper} {os : Oper} {z m : Nat} {T : TypeId} {cs vs : List Value} (n : Nat) (H : Hid (Hp w0 w l)) (hu : Upd l z T cs vs l') (hl : cs.length = m) (hm : P.follows .mixedOrders = true) (hB : Region.lexTailB .any ol.toArray (n + 1) = true)
    (hos : ol[n]? = some os)
    (h : wpKeepZ P ol.toArray w z (fun a' => StoreOK P os a' z m vs ∧ ∀ W, Hid (Hp w0 W l') → wpList P ol.toArray Q (ol.drop (n + 1)) a' W) (ol.take n) a) : (Code.region id ol.toArray true).wp P Q a w := by
  have hb := (H.out.get hu.mem).out
  refine wp_region_put n z (.cells cs.toArray T (0, 0)) (.cells vs.toArray T (0, 0)) hm hB hos hb ?_
  have mono : ∀ (l' : List Oper) (a : Act) {R R' : Act → Prop}, (∀ a, R a → R' a) → wpKeepZ P ol.toArray w z R l' a → wpKeepZ P ol.toArray w z R' l' a := by
    intro l'
    induction l' with
    | nil => intro a R R' hR h; exact hR _ h
    | cons o r ih =>
      intro a R R' hR h
      unfold wpKeepZ at h ⊢
      split
      · rename_i hw
        rw [if_pos hw] at h
        obtain ⟨v, h1, h2⟩ := h
        exact ⟨v, h1, ih _ hR h2⟩
      · rename_i hw
        rw [if_neg hw] at h
        exact ih _ hR h
  refine mono _ a (fun a' h1 => ?_) h
  obtain ⟨hS, h2⟩ := h1
  obtain ⟨t, p, x, ho, hT, hp, hx⟩ := hS.op
  refine ⟨⟨by simp [Region.wanted, hS.g], fun W hW => ?_⟩, fun W hz hW => ?_⟩
  · have hk : Blk W z T cs.toArray := hW
    have hvl := hS.l
    have hs : (sizeOf t).run P W = .ok vs.length W := by
      have h3 := hT.s
      cases hq : P.info? t with
      | none => simp [hq] at h3
      | some i =>
        have h4 : i.size = m := by simpa [hq] using h3
        simp [sizeOf, typeInfo, hq, h4, hvl]
    have hr := run_storeAt (P := P) (t := t) hk (by simp [hvl, hl]) (by simpa using hS.o) hs
    refine ⟨W.setCells z 0 vs, ?_, blk_setAll vs hk (by simp [hvl, hl]), (setCells_far vs 0 W).1, (setCells_far vs 0 W).2⟩
    unfold execOp
    rw [ho]
    simp only [hp, hx]
    generalize Instr.storeAt t (.pointer (some ⟨z, 0, none⟩)) (.agg vs.toArray) = I at hr ⊢
    simp [go_sem, hr]
  · have : a'.put os.dst undef = a' := by rw [hS.d]; rfl
    rw [this]
    exact h2 W (H.out.stored hu hz hW)
end

/-! Which operation stands at the head: asked before a law is tried, so that what does not fit fails at once -/
section
variable {P : Program} {ops : Array Oper} {rest : List Oper} {o : Oper} {a : Act} {w : World} {Q : Exit → Act → World → Prop}
variable {d : Option Tmp} {ty : TypeId} {po : String} {af : Array Edge} {g : Option (Nat × Bool)}
theorem isLoad {t : TypeId} {p : Operand} (h : wpList P ops Q (⟨d, .load t p, ty, po, af, g⟩ :: rest) a w) : wpList P ops Q (⟨d, .load t p, ty, po, af, g⟩ :: rest) a w := h
theorem isStore {t : TypeId} {p x : Operand} (h : wpList P ops Q (⟨d, .store t p x, ty, po, af, g⟩ :: rest) a w) : wpList P ops Q (⟨d, .store t p x, ty, po, af, g⟩ :: rest) a w := h
theorem isBox {t : TypeId} {x : Operand} (h : wpList P ops Q (⟨d, .box t x, ty, po, af, g⟩ :: rest) a w) : wpList P ops Q (⟨d, .box t x, ty, po, af, g⟩ :: rest) a w := h
theorem isAlloc {t : TypeId} (h : wpList P ops Q (⟨d, .alloc t, ty, po, af, g⟩ :: rest) a w) : wpList P ops Q (⟨d, .alloc t, ty, po, af, g⟩ :: rest) a w := h
theorem kLoad {R : Act → Prop} {t : TypeId} {p : Operand} (h : wpKeep P ops w R (⟨d, .load t p, ty, po, af, g⟩ :: rest) a) : wpKeep P ops w R (⟨d, .load t p, ty, po, af, g⟩ :: rest) a := h
theorem kzLoad {z : Nat} {R : Act → Prop} {t : TypeId} {p : Operand} (h : wpKeepZ P ops w z R (⟨d, .load t p, ty, po, af, g⟩ :: rest) a) : wpKeepZ P ops w z R (⟨d, .load t p, ty, po, af, g⟩ :: rest) a := h
theorem kCall {R : Act → Prop} {c : Call} (h : wpKeep P ops w R (⟨d, .call c, ty, po, af, g⟩ :: rest) a) : wpKeep P ops w R (⟨d, .call c, ty, po, af, g⟩ :: rest) a := h
theorem kzCall {z : Nat} {R : Act → Prop} {c : Call} (h : wpKeepZ P ops w z R (⟨d, .call c, ty, po, af, g⟩ :: rest) a) : wpKeepZ P ops w z R (⟨d, .call c, ty, po, af, g⟩ :: rest) a := h
theorem kCons {R : Act → Prop} (h : wpKeep P ops w R (o :: rest) a) : wpKeep P ops w R (o :: rest) a := h
theorem kzCons {z : Nat} {R : Act → Prop} (h : wpKeepZ P ops w z R (o :: rest) a) : wpKeepZ P ops w z R (o :: rest) a := h
theorem wanted_none {y : Nat → Option Bool} (h : o.guard = none) : Region.wanted o y = true := by simp [Region.wanted, h]
end

/-! The results -/
section
variable {P : Program} {fn : Func} {tmps : Array Value} {w0 w : World} {l : Ents}
theorem results_H (H : Hid (Hp w0 w l)) {r : Nat} {t T : TypeId} {b n : Nat} {cs : List Value} (hr : fn.results = #[.cell r t]) (hT : RowT P t n) (hp : tmps.getD r undef = .pointer (some ⟨b, 0, none⟩)) (hm : (b, T, cs) ∈ l) (hl : cs.length = n) :
    (results fn tmps).run P w = .ok (.agg cs.toArray) w := results_B hr hp (H.out.get hm) hT (by simpa using hl)
theorem results_Hv (H : Hid (Hp w0 w l)) {r k : Nat} {t T : TypeId} {b n : Nat} {cs : List Value} {v : Value} (hr : fn.results = #[.cell r t, .tmp k]) (hT : RowT P t n) (hp : tmps.getD r undef = .pointer (some ⟨b, 0, none⟩)) (hm : (b, T, cs) ∈ l) (hv : tmps.getD k undef = v) (hl : cs.length = n) :
    (results fn tmps).run P w = .ok (.tuple #[.agg cs.toArray, v]) w := results_Bv hr hp hv (H.out.get hm) hT (by simpa using hl)
theorem results_HH (H : Hid (Hp w0 w l)) {r r2 : Nat} {t T t2 T2 : TypeId} {b n b2 n2 : Nat} {cs cs2 : List Value} (hr : fn.results = #[.cell r t, .cell r2 t2]) (hT : RowT P t n) (hT2 : RowT P t2 n2) (hp : tmps.getD r undef = .pointer (some ⟨b, 0, none⟩)) (hm : (b, T, cs) ∈ l) (hp2 : tmps.getD r2 undef = .pointer (some ⟨b2, 0, none⟩)) (hm2 : (b2, T2, cs2) ∈ l) (hl : cs.length = n) (hl2 : cs2.length = n2) :
    (results fn tmps).run P w = .ok (.tuple #[.agg cs.toArray, .agg cs2.toArray]) w := results_BB hr hp hp2 (H.out.get hm) (H.out.get hm2) hT hT2 (by simpa using hl) (by simpa using hl2)
end
end Go.Proofs.Ythepafendopfhaa
