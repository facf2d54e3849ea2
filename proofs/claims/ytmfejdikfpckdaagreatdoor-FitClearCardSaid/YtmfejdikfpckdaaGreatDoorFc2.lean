/- A region that draws its order, whose operations read, and whose callees read and make memory: one walk of the text's order serves every order. No program. -/
import Derived.BigQuiet
import Derived.Below
import Derived.Test.YtmfejdikfpckdaaGreatDoorFc1
import Derived.Lib.Hide
namespace Go.Proofs.YtmfejdikfpckdaaGreatDoor
open Go.RowKit
set_option linter.unusedVariables false

theorem keep_cell {W W' : World} {p : Addr} {v : Value} (hb : Below W.heap.size W W') (h : W.cell? p = some v) : W'.cell? p = some v := (hb.cell (World.block_lt_of_cell? W p h)).trans h
/-- A world in which all that lay in W is as it was. -/
structure Ext (W : World) where
  «to» : World
  h : Below W.heap.size W «to»
instance (W : World) : Nonempty (Ext W) := ⟨⟨W, Below.refl _ _⟩⟩
theorem Ext.cell {W : World} (s : Ext W) {p : Addr} {v : Value} (h : W.cell? p = some v) : s.to.cell? p = some v := keep_cell s.h h

theorem wp_region_ext {P : Program} {id : Nat} {Q : Exit → Act → World → Prop} {a : Act} {w : World} {l : List Oper} (hm : P.follows .mixedOrders = true) (hB : Region.lexB .any l.toArray = true)
    (h : wpQuiet P l.toArray (fun w' => ∃ s : Ext w, w' = s.to) (fun a' => ∀ w', (∃ s : Ext w, w' = s.to) → Q .normal a' w') l a) : (Code.region id l.toArray true).wp P Q a w :=
  wp_region_quiet (C := fun w' => ∃ s : Ext w, w' = s.to) hm hB ⟨⟨_, (Below.refl w.heap.size w).drew⟩, rfl⟩ (by simpa using h)
theorem Calls.ext {P : Program} {f : FuncId} {args : Array Value} {W : World} {s : Ext W} {v : Value} (h : Calls P f args s.to fun e w' => e = .returned v ∧ Below s.to.heap.size s.to w') :
    Calls P f args s.to fun e w'' => e = .returned v ∧ ∃ s' : Ext W, w'' = s'.to :=
  h.mono fun _ _ ⟨he, hb⟩ => ⟨he, ⟨_, s.h.trans (hb.mono s.h.size)⟩, rfl⟩
theorem Calls.ext_same {P : Program} {f : FuncId} {args : Array Value} {W : World} {s : Ext W} {v : Value} (h : Calls P f args s.to fun e w' => e = .returned v ∧ s.to = w') :
    Calls P f args s.to fun e w'' => e = .returned v ∧ ∃ s' : Ext W, w'' = s'.to :=
  h.mono fun _ _ ⟨he, hb⟩ => ⟨he, s, hb.symm⟩
end Go.Proofs.YtmfejdikfpckdaaGreatDoor
