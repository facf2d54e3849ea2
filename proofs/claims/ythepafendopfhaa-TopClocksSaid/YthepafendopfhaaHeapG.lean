/- wp_region_newput over the list of the call's blocks. No program. -/
import Derived.Test.YthepafendopfhaaHeap
import Derived.Test.YthepafendopfhaaExt6
namespace Go.Proofs.Ythepafendopfhaa
open Go.RowKit
set_option linter.unusedVariables false
section
variable {P : Program} {ops : Array Oper} {rest : List Oper} {o : Oper} {a : Act} {w0 w : World} {l l' : Ents} {Q : Exit → Act → World → Prop}
theorem StoreOK.stores {os : Oper} {z m : Nat} {T : TypeId} {cs vs : List Value} (hS : StoreOK P os a z m vs) (hl : cs.length = m) : StoresZ P ops os a z (.cells cs.toArray T (0, 0)) (.cells vs.toArray T (0, 0)) := by
  obtain ⟨t, p, x, ho, hT, hp, hx⟩ := hS.op
  refine ⟨by simp [Region.wanted, hS.g], fun W hW => ?_⟩
  have hk : Blk W z T cs.toArray := hW
  have hvl := hS.l
  have hs : (sizeOf t).run P W = .ok vs.length W := by
    have h3 := hT.s
    cases hq : P.info? t with
    | none => simp [hq] at h3
    | some i =>
      have h4 : i.size = m := by simpa [hq] using h3
      simp [sizeOf, typeInfo, hq, h4, hvl]
  have hr := run_storeAt (P := P) (t := t) hk (by simp [hvl, hl]) (by simpa using hS.o) hs
  refine ⟨W.setCells z 0 vs, ?_, blk_setAll vs hk (by simp [hvl, hl]), (setCells_far vs 0 W).1, (setCells_far vs 0 W).2⟩
  unfold execOp
  rw [ho]
  simp only [hp, hx]
  generalize Instr.storeAt t (.pointer (some ⟨z, 0, none⟩)) (.agg vs.toArray) = I at hr ⊢
  simp [go_sem, hr]
/-- n operations read or call, a block is made, a whole struct stored into it: the reads and calls in any order. -/
theorem wp_region_G {id : Nat} {ol : List Oper} {o1 os : Oper} {t : TypeId} {cs vs : List Value} {m : Nat} (n : Nat) (H : Hid (Hp w0 w l)) (hm : P.follows .mixedOrders = true) (hB : Region.lexTailB .any ol.toArray (n + 2) = true)
    (ho1 : ol[n]? = some o1) (hos : ol[n + 1]? = some os) (hA : Allocs P ol.toArray o1 (.cells cs.toArray t)) (hdep : os.after.any (fun e => Region.binds .any e && e.on == n) = true) (hd : os.dst = none) (hl : cs.length = m)
    (h : wpKeep P ol.toArray w (fun a' => ∀ b, StoreOK P os (a'.put o1.dst (.pointer (some ⟨b, 0, none⟩))) b m vs ∧ ∀ W, Hid (Hp w0 W ((b, t, vs) :: l)) → wpList P ol.toArray Q (ol.drop (n + 2)) (a'.put o1.dst (.pointer (some ⟨b, 0, none⟩))) W) (ol.take n) a) : (Code.region id ol.toArray true).wp P Q a w := by
  refine wp_region_newput n (.cells cs.toArray t (0, 0)) (.cells vs.toArray t (0, 0)) hm hB ho1 hos hA hdep ?_
  have mono : ∀ (l' : List Oper) (a : Act) {R R' : Act → Prop}, (∀ a, R a → R' a) → wpKeep P ol.toArray w R l' a → wpKeep P ol.toArray w R' l' a := by
    intro l'
    induction l' with
    | nil => intro a R R' hR h; exact hR _ h
    | cons o r ih =>
      intro a R R' hR h
      unfold wpKeep at h ⊢
      split
      · rename_i hw
        rw [if_pos hw] at h
        obtain ⟨v, h1, h2⟩ := h
        exact ⟨v, h1, ih _ hR h2⟩
      · rename_i hw
        rw [if_neg hw] at h
        exact ih _ hR h
  refine mono _ a (fun a' h1 z hz => ?_) h
  obtain ⟨hS, h2⟩ := h1 z
  refine ⟨hS.stores hl, fun W hW hW2 => ?_⟩
  have e : (a'.put o1.dst (.pointer (some ⟨z, 0, none⟩))).put os.dst undef = a'.put o1.dst (.pointer (some ⟨z, 0, none⟩)) := by rw [hd]; rfl
  rw [e]
  exact h2 W (H.out.fresh hW hz hW2)
end
end Go.Proofs.Ythepafendopfhaa
