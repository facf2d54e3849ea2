/- Maps from integers to bools that the call owns; the world maker's words. -/
import Derived.Test.YtioofkhadjaldaaSmall
import Derived.Test.YtioofkhadjaldaaActP
import Derived.Maps.OwnOps
import Derived.Deep.DeepCutAuto
namespace Go.Proofs.Ytioofkhadjaldaa
open Go.RowKit
open Go.Maps (Keyed)
set_option linter.unusedVariables false
set_option maxRecDepth 100000

/-- A map of the call's own that reads as f, false where there is no entry. -/
def BM (w : World) (b n : Nat) (f : Int → Bool) : Prop :=
  ∃ D : DataW Unit, w.ownsMap Try.prog 3 (plainElem (H := Unit) Try.prog 4) b n D ∧ ∀ x : Int, (Lit.int .i64 x).wf = true → D.atKey (.int .i64 x) (.lit (.bool false)) = .lit (.bool (f x))
theorem kI : Keyed Try.prog 3 := Go.Maps.int_keyed Try.underlying3
theorem keyI {x : Int} (h : (Lit.int .i64 x).wf = true) : keyOf Try.prog 3 (.int .i64 x) = some (.int .i64 x) := by
  simp [keyOf, mapKey, Try.underlying3, h]
theorem BM.made (w : World) : BM (w.alloc (.map #[] 0)) w.heap.size 0 (fun _ => false) :=
  ⟨_, World.ownsMap_made _ _ _ _, fun x _ => rfl⟩
theorem BM.lt {w : World} {b n : Nat} {f : Int → Bool} (h : BM w b n f) : b < w.heap.size := by
  obtain ⟨D, ⟨es, cl, hb, _⟩, _⟩ := h
  exact (Array.getElem?_eq_some_iff.1 hb).1
theorem BM.keep {w w' : World} {b n : Nat} {f : Int → Bool} (h : BM w b n f) (hb : w'.heap[b]? = w.heap[b]?) : BM w' b n f := by
  obtain ⟨D, ⟨es, cl, h1, h2⟩, h3⟩ := h
  exact ⟨D, ⟨es, cl, hb.trans h1, h2⟩, h3⟩
theorem BM.ne_blk {w : World} {b n g : Nat} {f : Int → Bool} {t : TypeId} {cs : Array Value} (h : BM w b n f) (hg : Blk w g t cs) : b ≠ g := by
  obtain ⟨D, ⟨es, cl, h1, h2⟩, h3⟩ := h
  rintro rfl
  unfold Blk at hg
  rw [hg] at h1
  cases h1
theorem BM.ne_own {w : World} {b n : Nat} {f : Int → Bool} (h : BM w b n f) {base size m : Nat} {e : TypeId} {v : Value} {xs : List Value} (ho : w.ownsRow base e size v m xs) : v.ownBlock ≠ some b := by
  obtain ⟨D, ⟨es, cl, h1, h2⟩, h3⟩ := h
  rcases ho.2 with ⟨rfl, _⟩ | ⟨g, cap, cur, rfl, _, hh, _⟩
  · simp [Value.ownBlock]
  · intro he
    have : g = b := by simpa [Value.ownBlock] using he
    subst this
    rw [hh] at h1
    cases h1
theorem wpList_lookup_bm (w : World) {ops : Array Oper} {rest : List Oper} {o : Oper} {a : Act} {Q : Exit → Act → World → Prop}
    (hg : o.guard = none) (m x : Operand) (t : TypeId) (hop : o.op = Op.lookup t m x false) (ht : Try.prog.underlying t = some (.map 3 4)) (b n : Nat) (f : Int → Bool)
    (hm : a.eval m = .map (some b)) (hown : BM w b n f) (key : Int) (hx : a.eval x = .int .i64 key) (hkey : (Lit.int .i64 key).wf = true)
    (hK : wpList Try.prog ops Q rest (a.put o.dst (.bool (f key))) w) : wpList Try.prog ops Q (o :: rest) a w := by
  refine wpList_plain hg fun K' hK' => ?_
  obtain ⟨D, h1, h2⟩ := hown
  have hz : (zeroValue 4).run Try.prog w = .ok (.bool false) w := by kernel_rfl
  obtain ⟨v, ps, hrun, hv⟩ := h1.lookup kI ht hz (plainElem_bool (H := Unit) Try.underlying4 false) (keyI hkey)
  rw [h2 key hkey] at hv
  have hv2 : v = .bool (f key) := by
    unfold plainElem at hv
    rw [Try.underlying4] at hv
    cases v <;> simp at hv
    rw [hv.1]
  subst hv2
  unfold Oper.wp
  simp [execOp, hop, hm, hx, hrun, Result.andThen]
  exact hK' _ _ hK
theorem wpList_update_bm (w : World) {ops : Array Oper} {rest : List Oper} {o : Oper} {a : Act} {Q : Exit → Act → World → Prop}
    (hg : o.guard = none) (m x v : Operand) (t : TypeId) (hop : o.op = Op.mapUpdate t m x v) (ht : Try.prog.underlying t = some (.map 3 4)) (b n : Nat) (f : Int → Bool)
    (hm : a.eval m = .map (some b)) (hown : BM w b n f) (hn : n < 1000) (key : Int) (hx : a.eval x = .int .i64 key) (hkey : (Lit.int .i64 key).wf = true) (c : Bool) (hv : a.eval v = .bool c)
    (hK : ∀ w', BM w' b (n + 1) (fun y => if y = key then c else f y) → w.grownBy w' (some b) → wpList Try.prog ops Q rest (a.put o.dst undef) w') : wpList Try.prog ops Q (o :: rest) a w := by
  obtain ⟨D, h1, h2⟩ := hown
  refine wpList_mapUpdate_own w hg m x v t hop 3 4 kI ht _ b n D hm h1 (by unfold maxLen; omega) (.int .i64 key) (.bool c) (.int .i64 key) hx hv (keyI hkey) (.lit (.bool c)) [] (plainElem_bool Try.underlying4 c) fun w' h3 h4 => ?_
  refine hK w' ⟨_, h3, fun y hy => ?_⟩ h4
  have hD : Go.Maps.IsMap D := by
    obtain ⟨es, cl, _, _, _, rfl⟩ := h1
    exact ⟨_, rfl⟩
  show _ = DataW.lit (.bool (if y = key then c else f y))
  by_cases e : y = key
  · subst e
    rw [if_pos rfl]
    exact Go.Maps.atKey_put_same hD (show WideAt.IsKeyLit (.int .i64 y) from trivial) _ _
  · rw [if_neg e, Go.Maps.atKey_put_other (by simpa using e)]
    exact h2 y hy

/-! Where World stands -/
abbrev zeroW : Array Value := #[.int .i64 0, .slice none 0 0, .slice none 0 0, .slice none 0 0]
/-- Slots, parts and arms: ns, np, na; ps, ss, as: what has been made so far; the spots' row lies behind hs. -/
structure PW (h : Nat) (w0 w : World) (na np ns : Nat) (A P S : Option Addr) (ca cp cs : Nat) (ps : List Int) (ss : List Bool) (qs : List Int) (hs : Nat) (A1 A2 A3 : Option Addr) (c1 c2 c3 : Nat) : Prop where
  X : Blk w h 35 (worksV na np ns A P S ca cp cs)
  Z : Blk w (h + 1) 25 zeroW
  st : Strm h w (h + 1 + 1)
  T : Blk w (h + 1 + 1 + 1) 25 #[.int .i64 ns, .slice A1 ps.length c1, .slice A2 ss.length c2, .slice A3 qs.length c3]
  op : w.ownsRow h 3 1 (.slice A1 ps.length c1) ps.length (ps.map (Value.int .i64))
  os : w.ownsRow h 4 1 (.slice A2 ss.length c2) ss.length (ss.map Value.bool)
  oq : w.ownsRow hs 3 1 (.slice A3 qs.length c3) qs.length (qs.map (Value.int .i64))
  hh : h ≤ hs
  B : Below h w0 w
section
variable {h : Nat} {w0 w w' : World} {na np ns : Nat} {A P S : Option Addr} {ca cp cs : Nat} {ps : List Int} {ss : List Bool} {qs : List Int} {hs : Nat} {A1 A2 A3 : Option Addr} {c1 c2 c3 : Nat}
theorem PW.le (p : PW h w0 w na np ns A P S ca cp cs ps ss qs hs A1 A2 A3 c1 c2 c3) : h ≤ w.heap.size := by have := p.X.lt; omega
theorem PW.keep (p : PW h w0 w na np ns A P S ca cp cs ps ss qs hs A1 A2 A3 c1 c2 c3) (hb : Below w.heap.size w w') : PW h w0 w' na np ns A P S ca cp cs ps ss qs hs A1 A2 A3 c1 c2 c3 :=
  ⟨p.X.below hb p.X.lt, p.Z.below hb p.Z.lt, p.st.keep (hb.mono p.le) (hb.block _ p.st.lt), p.T.below hb p.T.lt, own_bel p.op hb, own_bel p.os hb, own_bel p.oq hb, p.hh, p.B.trans (hb.mono p.le)⟩
theorem PW.next (p : PW h w0 w na np ns A P S ca cp cs ps ss qs hs A1 A2 A3 c1 c2 c3) (h1 : Strm h w' (h + 1 + 1)) (hg : w.grownBy w' (some (h + 1 + 1))) : PW h w0 w' na np ns A P S ca cp cs ps ss qs hs A1 A2 A3 c1 c2 c3 := by
  obtain ⟨u, hu⟩ := p.st.blk
  exact ⟨p.X.grown hg (by simp; omega), p.Z.grown hg (by simp), h1, p.T.grown hg (by simp), p.op.kept hg (.inr (own_blk_ne p.op hu (by decide))), p.os.kept hg (.inr (own_blk_ne p.os hu (by decide))), p.oq.kept hg (.inr (own_blk_ne p.oq hu (by decide))), p.hh, p.B.grown hg p.le (fun k hk => by cases hk; omega)⟩
theorem BM.next {b m : Nat} {f : Int → Bool} (hm : BM w b m f) (p : PW h w0 w na np ns A P S ca cp cs ps ss qs hs A1 A2 A3 c1 c2 c3) (hg : w.grownBy w' (some (h + 1 + 1))) : BM w' b m f := by
  obtain ⟨u, hu⟩ := p.st.blk
  exact hm.keep (hg.block b hm.lt (fun e => hm.ne_blk hu (by injection e)))
theorem BM.below {b m : Nat} {f : Int → Bool} (hm : BM w b m f) (hb : Below w.heap.size w w') : BM w' b m f := hm.keep (hb.block b hm.lt)
theorem PW.map (p : PW h w0 w na np ns A P S ca cp cs ps ss qs hs A1 A2 A3 c1 c2 c3) {b m : Nat} {f : Int → Bool} (hm : BM w b m f) (hb0 : h ≤ b) (hg : w.grownBy w' (some b)) : PW h w0 w' na np ns A P S ca cp cs ps ss qs hs A1 A2 A3 c1 c2 c3 := by
  obtain ⟨u, hu⟩ := p.st.blk
  have e1 := hm.ne_blk p.X
  have e2 := hm.ne_blk p.Z
  have e3 := hm.ne_blk hu
  have e4 := hm.ne_blk p.T
  exact ⟨p.X.grown hg (by simpa using Ne.symm e1), p.Z.grown hg (by simpa using Ne.symm e2), p.st.grown hg (fun k hk => by cases hk; exact hb0) (by simpa using Ne.symm e3), p.T.grown hg (by simpa using Ne.symm e4),
    p.op.kept hg (.inr (hm.ne_own p.op)), p.os.kept hg (.inr (hm.ne_own p.os)), p.oq.kept hg (.inr (hm.ne_own p.oq)), p.hh, p.B.grown hg p.le (fun k hk => by cases hk; exact hb0)⟩

theorem PW.place (hs0 : PW h w0 w na np ns A P S ca cp cs ps ss qs hs A1 A2 A3 c1 c2 c3) {A1' : Option Addr} {c1' : Nat} {u : Int} (ho : w'.ownsRow h 3 1 (.slice A1' (ps.length + 1) c1') (ps.length + 1) (ps.map (Value.int .i64) ++ [(Value.int .i64) u])) (hg : w.grownBy w' (Value.slice A1 ps.length c1).ownBlock) (hne : (Value.slice A3 qs.length c3).ownBlock = none ∨ (Value.slice A3 qs.length c3).ownBlock ≠ (Value.slice A1 ps.length c1).ownBlock) :
    PW h w0 (w'.setCell ⟨h + 1 + 1 + 1, 1, none⟩ (.slice A1' (ps.length + 1) c1')) na np ns A P S ca cp cs (ps ++ [u]) ss qs hs A1' A2 A3 c1' c2 c3 := by
  have hX := hs0.X.grown hg (own_blk_ne' hs0.X hs0.op (by decide))
  have hZ := hs0.Z.grown hg (own_blk_ne' hs0.Z hs0.op (by decide))
  have hT := hs0.T.grown hg (own_blk_ne' hs0.T hs0.op (by decide))
  obtain ⟨u0, hu⟩ := hs0.st.blk
  have hS := hs0.st.grown hg (fun k hk => (hs0.op.lt k hk).1) (own_blk_ne' hu hs0.op (by decide))
  have hB := hs0.B.grown hg hs0.le (fun k hk => (hs0.op.lt k hk).1)
  have o_os := hs0.os.kept hg (own_own_ne hs0.os hs0.op (by decide))
  have o_oq := hs0.oq.kept hg (hne)
  have hl : (ps ++ [u]).length = ps.length + 1 := by simp
  have ho2 : w'.ownsRow h 3 1 (.slice A1' (ps ++ [u]).length c1') (ps ++ [u]).length ((ps ++ [u]).map (Value.int .i64)) := by rw [hl, List.map_append]; exact ho
  have hT2 := hT.seti 1 (.slice A1' (ps.length + 1) c1') rfl
  rw [← hl] at hT2 ⊢
  exact ⟨hX.far (p := ⟨h + 1 + 1 + 1, 1, none⟩) (by show h ≠ h + 1 + 1 + 1; omega) _, hZ.far (p := ⟨h + 1 + 1 + 1, 1, none⟩) (by show h + 1 ≠ h + 1 + 1 + 1; omega) _, hS.setCell (p := ⟨h + 1 + 1 + 1, 1, none⟩) (by show h + 1 + 1 ≠ h + 1 + 1 + 1; omega) (by show h ≤ h + 1 + 1 + 1; omega) _, hT2,
    own_set_far ho2 hT (by decide) 1 _, own_set_far o_os hT (by decide) 1 _, own_set_far o_oq hT (by decide) 1 _, hs0.hh, hB.setCell (p := ⟨h + 1 + 1 + 1, 1, none⟩) (by show h ≤ h + 1 + 1 + 1; omega) _⟩
theorem BM.place {b m : Nat} {f : Int → Bool} (hm : BM w b m f) (hs0 : PW h w0 w na np ns A P S ca cp cs ps ss qs hs A1 A2 A3 c1 c2 c3) (hg : w.grownBy w' (Value.slice A1 ps.length c1).ownBlock) (v : Value) : BM (w'.setCell ⟨h + 1 + 1 + 1, 1, none⟩ v) b m f := by
  have h1 := hm.keep (hg.block b hm.lt (fun e => hm.ne_own hs0.op e.symm))
  refine h1.keep (Below.heap_setCell w' ⟨h + 1 + 1 + 1, 1, none⟩ v b ?_)
  exact hm.ne_blk hs0.T

theorem PW.seen (hs0 : PW h w0 w na np ns A P S ca cp cs ps ss qs hs A1 A2 A3 c1 c2 c3) {A2' : Option Addr} {c2' : Nat} {u : Bool} (ho : w'.ownsRow h 4 1 (.slice A2' (ss.length + 1) c2') (ss.length + 1) (ss.map Value.bool ++ [Value.bool u])) (hg : w.grownBy w' (Value.slice A2 ss.length c2).ownBlock) :
    PW h w0 (w'.setCell ⟨h + 1 + 1 + 1, 2, none⟩ (.slice A2' (ss.length + 1) c2')) na np ns A P S ca cp cs ps (ss ++ [u]) qs hs A1 A2' A3 c1 c2' c3 := by
  have hX := hs0.X.grown hg (own_blk_ne' hs0.X hs0.os (by decide))
  have hZ := hs0.Z.grown hg (own_blk_ne' hs0.Z hs0.os (by decide))
  have hT := hs0.T.grown hg (own_blk_ne' hs0.T hs0.os (by decide))
  obtain ⟨u0, hu⟩ := hs0.st.blk
  have hS := hs0.st.grown hg (fun k hk => (hs0.os.lt k hk).1) (own_blk_ne' hu hs0.os (by decide))
  have hB := hs0.B.grown hg hs0.le (fun k hk => (hs0.os.lt k hk).1)
  have o_op := hs0.op.kept hg (own_own_ne hs0.op hs0.os (by decide))
  have o_oq := hs0.oq.kept hg (own_own_ne hs0.oq hs0.os (by decide))
  have hl : (ss ++ [u]).length = ss.length + 1 := by simp
  have ho2 : w'.ownsRow h 4 1 (.slice A2' (ss ++ [u]).length c2') (ss ++ [u]).length ((ss ++ [u]).map Value.bool) := by rw [hl, List.map_append]; exact ho
  have hT2 := hT.seti 2 (.slice A2' (ss.length + 1) c2') rfl
  rw [← hl] at hT2 ⊢
  exact ⟨hX.far (p := ⟨h + 1 + 1 + 1, 2, none⟩) (by show h ≠ h + 1 + 1 + 1; omega) _, hZ.far (p := ⟨h + 1 + 1 + 1, 2, none⟩) (by show h + 1 ≠ h + 1 + 1 + 1; omega) _, hS.setCell (p := ⟨h + 1 + 1 + 1, 2, none⟩) (by show h + 1 + 1 ≠ h + 1 + 1 + 1; omega) (by show h ≤ h + 1 + 1 + 1; omega) _, hT2,
    own_set_far o_op hT (by decide) 2 _, own_set_far ho2 hT (by decide) 2 _, own_set_far o_oq hT (by decide) 2 _, hs0.hh, hB.setCell (p := ⟨h + 1 + 1 + 1, 2, none⟩) (by show h ≤ h + 1 + 1 + 1; omega) _⟩
theorem BM.seen {b m : Nat} {f : Int → Bool} (hm : BM w b m f) (hs0 : PW h w0 w na np ns A P S ca cp cs ps ss qs hs A1 A2 A3 c1 c2 c3) (hg : w.grownBy w' (Value.slice A2 ss.length c2).ownBlock) (v : Value) : BM (w'.setCell ⟨h + 1 + 1 + 1, 2, none⟩ v) b m f := by
  have h1 := hm.keep (hg.block b hm.lt (fun e => hm.ne_own hs0.os e.symm))
  refine h1.keep (Below.heap_setCell w' ⟨h + 1 + 1 + 1, 2, none⟩ v b ?_)
  exact hm.ne_blk hs0.T

theorem PW.spot (hs0 : PW h w0 w na np ns A P S ca cp cs ps ss qs hs A1 A2 A3 c1 c2 c3) {A3' : Option Addr} {c3' : Nat} {u : Int} (ho : w'.ownsRow hs 3 1 (.slice A3' (qs.length + 1) c3') (qs.length + 1) (qs.map (Value.int .i64) ++ [(Value.int .i64) u])) (hg : w.grownBy w' (Value.slice A3 qs.length c3).ownBlock) (hne : (Value.slice A1 ps.length c1).ownBlock = none ∨ (Value.slice A1 ps.length c1).ownBlock ≠ (Value.slice A3 qs.length c3).ownBlock) :
    PW h w0 (w'.setCell ⟨h + 1 + 1 + 1, 3, none⟩ (.slice A3' (qs.length + 1) c3')) na np ns A P S ca cp cs ps ss (qs ++ [u]) hs A1 A2 A3' c1 c2 c3' := by
  have hX := hs0.X.grown hg (own_blk_ne' hs0.X hs0.oq (by decide))
  have hZ := hs0.Z.grown hg (own_blk_ne' hs0.Z hs0.oq (by decide))
  have hT := hs0.T.grown hg (own_blk_ne' hs0.T hs0.oq (by decide))
  obtain ⟨u0, hu⟩ := hs0.st.blk
  have hS := hs0.st.grown hg (fun k hk => Nat.le_trans hs0.hh (hs0.oq.lt k hk).1) (own_blk_ne' hu hs0.oq (by decide))
  have hB := hs0.B.grown hg hs0.le (fun k hk => Nat.le_trans hs0.hh (hs0.oq.lt k hk).1)
  have o_op := hs0.op.kept hg (hne)
  have o_os := hs0.os.kept hg (own_own_ne hs0.os hs0.oq (by decide))
  have hl : (qs ++ [u]).length = qs.length + 1 := by simp
  have ho2 : w'.ownsRow hs 3 1 (.slice A3' (qs ++ [u]).length c3') (qs ++ [u]).length ((qs ++ [u]).map (Value.int .i64)) := by rw [hl, List.map_append]; exact ho
  have hT2 := hT.seti 3 (.slice A3' (qs.length + 1) c3') rfl
  rw [← hl] at hT2 ⊢
  exact ⟨hX.far (p := ⟨h + 1 + 1 + 1, 3, none⟩) (by show h ≠ h + 1 + 1 + 1; omega) _, hZ.far (p := ⟨h + 1 + 1 + 1, 3, none⟩) (by show h + 1 ≠ h + 1 + 1 + 1; omega) _, hS.setCell (p := ⟨h + 1 + 1 + 1, 3, none⟩) (by show h + 1 + 1 ≠ h + 1 + 1 + 1; omega) (by show h ≤ h + 1 + 1 + 1; omega) _, hT2,
    own_set_far o_op hT (by decide) 3 _, own_set_far o_os hT (by decide) 3 _, own_set_far ho2 hT (by decide) 3 _, hs0.hh, hB.setCell (p := ⟨h + 1 + 1 + 1, 3, none⟩) (by show h ≤ h + 1 + 1 + 1; omega) _⟩
theorem BM.spot {b m : Nat} {f : Int → Bool} (hm : BM w b m f) (hs0 : PW h w0 w na np ns A P S ca cp cs ps ss qs hs A1 A2 A3 c1 c2 c3) (hg : w.grownBy w' (Value.slice A3 qs.length c3).ownBlock) (v : Value) : BM (w'.setCell ⟨h + 1 + 1 + 1, 3, none⟩ v) b m f := by
  have h1 := hm.keep (hg.block b hm.lt (fun e => hm.ne_own hs0.oq e.symm))
  refine h1.keep (Below.heap_setCell w' ⟨h + 1 + 1 + 1, 3, none⟩ v b ?_)
  exact hm.ne_blk hs0.T
end
end Go.Proofs.Ytioofkhadjaldaa
