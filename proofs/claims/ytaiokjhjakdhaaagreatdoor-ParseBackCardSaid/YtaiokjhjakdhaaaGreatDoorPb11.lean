/- The walk of gantkeep4.Small. -/
import Derived.Test.YtaiokjhjakdhaaaGreatDoorPb10
import Derived.Test.YtaiokjhjakdhaaaGreatDoorPb4
import Derived.Test.YtaiokjhjakdhaaaGreatDoorPb8
import Derived.Deep.RegionLaw
import Derived.Deep.RegionHeld3
namespace Go.Proofs.YtaiokjhjakdhaaaGreatDoor
open Go.RowKit
set_option linter.unusedVariables false
set_option maxRecDepth 100000

def frame0 : List Value := [.bool false, .string ⟨#[]⟩, .string ⟨#[]⟩, .bool false, .string ⟨#[]⟩, .string ⟨#[]⟩, .bool false, .bool false, .string ⟨#[]⟩, .string ⟨#[]⟩]
def armC (nm : ByteArray) : List Value := .string nm :: (frame0 ++ [.slice none 0 0])
def partC (nm : ByteArray) : List Value := .string nm :: .slice none 0 0 :: frame0
def slotC (nm : ByteArray) : List Value := .string nm :: (frame0 ++ (ratOf 1 4).toList)
def armN : List ByteArray := [⟨#[97, 110, 110]⟩, ⟨#[98, 111, 98]⟩]
def partN : List ByteArray := [⟨#[98, 111, 108, 116]⟩, ⟨#[110, 117, 116]⟩]
def slotN : List ByteArray := [⟨#[104, 101, 114, 101]⟩, ⟨#[116, 104, 101, 114, 101]⟩]
theorem armC_len (x : ByteArray) : (armC x).length = 12 := rfl
theorem partC_len (x : ByteArray) : (partC x).length = 12 := rfl
theorem frame0_one : ∀ u ∈ frame0, u.oneCell' = true := by decide
theorem armC_one (x : ByteArray) : ∀ u ∈ armC x, u.oneCell' = true := by
  intro u hu
  simp only [armC, List.mem_cons, List.mem_append, List.not_mem_nil, or_false] at hu
  rcases hu with rfl | hu | rfl
  · rfl
  · exact frame0_one u hu
  · rfl
theorem partC_one (x : ByteArray) : ∀ u ∈ partC x, u.oneCell' = true := by
  intro u hu
  simp only [partC, List.mem_cons] at hu
  rcases hu with rfl | rfl | hu
  · rfl
  · rfl
  · exact frame0_one u hu
theorem slotC_one (x : ByteArray) : ∀ u ∈ slotC x, u.oneCell' = true := by
  intro u hu
  simp only [slotC, List.mem_cons, List.mem_append, ratOf, List.not_mem_nil, or_false] at hu
  rcases hu with rfl | hu | rfl | rfl | rfl
  · rfl
  · exact frame0_one u hu
  · rfl
  · rfl
  · rfl

abbrev worksV (na np ns : Nat) (A P S : Option Addr) (ca cp cs : Nat) : Array Value := #[.slice A na ca, .slice none 0 0, .slice P np cp, .slice S ns cs, .slice none 0 0, .bool false, .string ⟨#[]⟩, .string ⟨#[]⟩]
/-- The rows of a works of Small. -/
structure WkO (h : Nat) (w : World) (na np ns : Nat) (A P S : Option Addr) (ca cp cs : Nat) : Prop where
  oa : w.ownsRow h 60 12 (.slice A na ca) na (flat armC (armN.take na))
  op : w.ownsRow h 63 12 (.slice P np cp) np (flat partC (partN.take np))
  os : w.ownsRow h 66 14 (.slice S ns cs) ns (flat slotC (slotN.take ns))
/-- Where Small stands. -/
structure SW (h : Nat) (w0 w : World) (na np ns : Nat) (A P S : Option Addr) (ca cp cs : Nat) : Prop where
  Z : Blk w h 35 #[.slice none 0 0, .slice none 0 0, .slice none 0 0, .slice none 0 0, .slice none 0 0, .bool false, .string ⟨#[]⟩, .string ⟨#[]⟩]
  st : Strm h w (h + 1)
  X : Blk w (h + 1 + 1) 35 #[.slice A na ca, .slice none 0 0, .slice P np cp, .slice S ns cs, .slice none 0 0, .bool false, .string ⟨#[]⟩, .string ⟨#[]⟩]
  O : WkO h w na np ns A P S ca cp cs
  B : Below h w0 w
section
variable {h : Nat} {w0 w w' : World} {na np ns : Nat} {A P S : Option Addr} {ca cp cs : Nat}
theorem WkO.keep (ho : WkO h w na np ns A P S ca cp cs) (hb : Below w.heap.size w w') : WkO h w' na np ns A P S ca cp cs := ⟨own_bel ho.oa hb, own_bel ho.op hb, own_bel ho.os hb⟩
theorem SW.le (hs : SW h w0 w na np ns A P S ca cp cs) : h ≤ w.heap.size := by have := hs.X.lt; omega
theorem SW.keep (hs : SW h w0 w na np ns A P S ca cp cs) (hb : Below w.heap.size w w') : SW h w0 w' na np ns A P S ca cp cs :=
  ⟨hs.Z.below hb hs.Z.lt, hs.st.keep (hb.mono hs.le) (hb.block _ hs.st.lt), hs.X.below hb hs.X.lt, hs.O.keep hb, hs.B.trans (hb.mono hs.le)⟩
theorem SW.next (hs : SW h w0 w na np ns A P S ca cp cs) (h1 : Strm h w' (h + 1)) (hg : w.grownBy w' (some (h + 1))) : SW h w0 w' na np ns A P S ca cp cs := by
  obtain ⟨u, hu⟩ := hs.st.blk
  refine ⟨hs.Z.grown hg (by simp), h1, hs.X.grown hg (by simp), ⟨hs.O.oa.kept hg (.inr (own_blk_ne hs.O.oa hu (by decide))), hs.O.op.kept hg (.inr (own_blk_ne hs.O.op hu (by decide))), hs.O.os.kept hg (.inr (own_blk_ne hs.O.os hu (by decide)))⟩, hs.B.grown hg hs.le (fun k hk => by cases hk; omega)⟩
theorem SW.cells (hs : SW h w0 w na np ns A P S ca cp cs) : w.cell? ⟨h + 1 + 1, 0, none⟩ = some (.slice A na ca) ∧ w.cell? ⟨h + 1 + 1, 1, none⟩ = some (.slice none 0 0) ∧ w.cell? ⟨h + 1 + 1, 2, none⟩ = some (.slice P np cp) ∧ w.cell? ⟨h + 1 + 1, 3, none⟩ = some (.slice S ns cs) ∧ w.cell? ⟨h + 1 + 1, 4, none⟩ = some (.slice none 0 0) ∧ w.cell? ⟨h + 1 + 1, 5, none⟩ = some (.bool false) ∧ w.cell? ⟨h + 1 + 1, 6, none⟩ = some (.string ⟨#[]⟩) ∧ w.cell? ⟨h + 1 + 1, 7, none⟩ = some (.string ⟨#[]⟩) := ⟨hs.X.cell 0, hs.X.cell 1, hs.X.cell 2, hs.X.cell 3, hs.X.cell 4, hs.X.cell 5, hs.X.cell 6, hs.X.cell 7⟩
theorem own_blk_ne' {t : TypeId} {cs' : Array Value} {g base n size : Nat} {e : TypeId} {v : Value} {xs : List Value} (hg : Blk w g t cs') (ho : w.ownsRow base e size v n xs) (hne : e ≠ t) : some g ≠ v.ownBlock := fun he => own_blk_ne ho hg hne he.symm
theorem own_set_far {t : TypeId} {cs' : Array Value} {g base n size : Nat} {e : TypeId} {v : Value} {xs : List Value} (ho : w.ownsRow base e size v n xs) (hg : Blk w g t cs') (hne : e ≠ t) (i : Nat) (u : Value) : (w.setCell ⟨g, i, none⟩ u).ownsRow base e size v n xs := by
  refine ho.kept (row := some g) ⟨rfl, rfl, rfl, by simp [World.setCell], fun k _ hk => Below.heap_setCell w ⟨g, i, none⟩ u k (by simpa using hk)⟩ (.inr (own_blk_ne ho hg hne))

theorem SW.arm (hs : SW h w0 w na np ns A P S ca cp cs) {A' : Option Addr} {ca' : Nat} (ho : w'.ownsRow h 60 12 (.slice A' (na + 1) ca') (na + 1) (flat armC (armN.take (na + 1)))) (hg : w.grownBy w' (Value.slice A na ca).ownBlock) :
    SW h w0 (w'.setCell ⟨h + 1 + 1, 0, none⟩ (.slice A' (na + 1) ca')) (na + 1) np ns A' P S ca' cp cs := by
  have hZ := hs.Z.grown hg (own_blk_ne' hs.Z hs.O.oa (by decide))
  have hX := hs.X.grown hg (own_blk_ne' hs.X hs.O.oa (by decide))
  obtain ⟨u, hu⟩ := hs.st.blk
  have hS := hs.st.grown hg (fun k hk => (hs.O.oa.lt k hk).1) (own_blk_ne' hu hs.O.oa (by decide))
  have hB := hs.B.grown hg hs.le (fun k hk => (hs.O.oa.lt k hk).1)
  have o1 := hs.O.op.kept hg (own_own_ne hs.O.op hs.O.oa (by decide))
  have o2 := hs.O.os.kept hg (own_own_ne hs.O.os hs.O.oa (by decide))
  refine ⟨hZ.far (p := ⟨h + 1 + 1, 0, none⟩) (by show h ≠ h + 1 + 1; omega) _, hS.setCell (p := ⟨h + 1 + 1, 0, none⟩) (by show h + 1 ≠ h + 1 + 1; omega) (by show h ≤ h + 1 + 1; omega) _, hX.set_ 0 _, ⟨?_, ?_, ?_⟩, hB.setCell (p := ⟨h + 1 + 1, 0, none⟩) (by show h ≤ h + 1 + 1; omega) _⟩
  · exact own_set_far ho hX (by decide) 0 _
  · exact own_set_far o1 hX (by decide) 0 _
  · exact own_set_far o2 hX (by decide) 0 _

theorem SW.part (hs : SW h w0 w na np ns A P S ca cp cs) {P' : Option Addr} {cp' : Nat} (ho : w'.ownsRow h 63 12 (.slice P' (np + 1) cp') (np + 1) (flat partC (partN.take (np + 1)))) (hg : w.grownBy w' (Value.slice P np cp).ownBlock) :
    SW h w0 (w'.setCell ⟨h + 1 + 1, 2, none⟩ (.slice P' (np + 1) cp')) na (np + 1) ns A P' S ca cp' cs := by
  have hZ := hs.Z.grown hg (own_blk_ne' hs.Z hs.O.op (by decide))
  have hX := hs.X.grown hg (own_blk_ne' hs.X hs.O.op (by decide))
  obtain ⟨u, hu⟩ := hs.st.blk
  have hS := hs.st.grown hg (fun k hk => (hs.O.op.lt k hk).1) (own_blk_ne' hu hs.O.op (by decide))
  have hB := hs.B.grown hg hs.le (fun k hk => (hs.O.op.lt k hk).1)
  have o1 := hs.O.oa.kept hg (own_own_ne hs.O.oa hs.O.op (by decide))
  have o2 := hs.O.os.kept hg (own_own_ne hs.O.os hs.O.op (by decide))
  refine ⟨hZ.far (p := ⟨h + 1 + 1, 2, none⟩) (by show h ≠ h + 1 + 1; omega) _, hS.setCell (p := ⟨h + 1 + 1, 2, none⟩) (by show h + 1 ≠ h + 1 + 1; omega) (by show h ≤ h + 1 + 1; omega) _, hX.set_ 2 _, ⟨?_, ?_, ?_⟩, hB.setCell (p := ⟨h + 1 + 1, 2, none⟩) (by show h ≤ h + 1 + 1; omega) _⟩
  · exact own_set_far o1 hX (by decide) 2 _
  · exact own_set_far ho hX (by decide) 2 _
  · exact own_set_far o2 hX (by decide) 2 _

theorem SW.slot (hs : SW h w0 w na np ns A P S ca cp cs) {S' : Option Addr} {cs' : Nat} (ho : w'.ownsRow h 66 14 (.slice S' (ns + 1) cs') (ns + 1) (flat slotC (slotN.take (ns + 1)))) (hg : w.grownBy w' (Value.slice S ns cs).ownBlock) :
    SW h w0 (w'.setCell ⟨h + 1 + 1, 3, none⟩ (.slice S' (ns + 1) cs')) na np (ns + 1) A P S' ca cp cs' := by
  have hZ := hs.Z.grown hg (own_blk_ne' hs.Z hs.O.os (by decide))
  have hX := hs.X.grown hg (own_blk_ne' hs.X hs.O.os (by decide))
  obtain ⟨u, hu⟩ := hs.st.blk
  have hS := hs.st.grown hg (fun k hk => (hs.O.os.lt k hk).1) (own_blk_ne' hu hs.O.os (by decide))
  have hB := hs.B.grown hg hs.le (fun k hk => (hs.O.os.lt k hk).1)
  have o1 := hs.O.oa.kept hg (own_own_ne hs.O.oa hs.O.os (by decide))
  have o2 := hs.O.op.kept hg (own_own_ne hs.O.op hs.O.os (by decide))
  refine ⟨hZ.far (p := ⟨h + 1 + 1, 3, none⟩) (by show h ≠ h + 1 + 1; omega) _, hS.setCell (p := ⟨h + 1 + 1, 3, none⟩) (by show h + 1 ≠ h + 1 + 1; omega) (by show h ≤ h + 1 + 1; omega) _, hX.set_ 3 _, ⟨?_, ?_, ?_⟩, hB.setCell (p := ⟨h + 1 + 1, 3, none⟩) (by show h ≤ h + 1 + 1; omega) _⟩
  · exact own_set_far o1 hX (by decide) 3 _
  · exact own_set_far o2 hX (by decide) 3 _
  · exact own_set_far ho hX (by decide) 3 _

theorem SW.zc (hs : SW h w0 w na np ns A P S ca cp cs) : (w.cell? ⟨h, 0, none⟩ = some (.slice none 0 0) ∧ w.cell? ⟨h, 1, none⟩ = some (.slice none 0 0) ∧ w.cell? ⟨h, 2, none⟩ = some (.slice none 0 0) ∧ w.cell? ⟨h, 3, none⟩ = some (.slice none 0 0) ∧ w.cell? ⟨h, 4, none⟩ = some (.slice none 0 0) ∧ w.cell? ⟨h, 5, none⟩ = some (.bool false) ∧ w.cell? ⟨h, 6, none⟩ = some (.string ⟨#[]⟩) ∧ w.cell? ⟨h, 7, none⟩ = some (.string ⟨#[]⟩)) ∧ (w.frozen? ⟨h, 0, none⟩ = false ∧ w.frozen? ⟨h, 1, none⟩ = false ∧ w.frozen? ⟨h, 2, none⟩ = false ∧ w.frozen? ⟨h, 3, none⟩ = false ∧ w.frozen? ⟨h, 4, none⟩ = false ∧ w.frozen? ⟨h, 5, none⟩ = false ∧ w.frozen? ⟨h, 6, none⟩ = false ∧ w.frozen? ⟨h, 7, none⟩ = false) :=
  ⟨⟨hs.Z.cell 0, hs.Z.cell 1, hs.Z.cell 2, hs.Z.cell 3, hs.Z.cell 4, hs.Z.cell 5, hs.Z.cell 6, hs.Z.cell 7⟩, ⟨hs.Z.frozen 0, hs.Z.frozen 1, hs.Z.frozen 2, hs.Z.frozen 3, hs.Z.frozen 4, hs.Z.frozen 5, hs.Z.frozen 6, hs.Z.frozen 7⟩⟩
theorem Blk.seti {t : TypeId} {cs1 cs2 : Array Value} {g : Nat} (hb : Blk w g t cs1) (i : Nat) (u : Value) (he : cs1.setIfInBounds i u = cs2) : Blk (w.setCell ⟨g, i, none⟩ u) g t cs2 := he ▸ hb.set_ i u
theorem SW.done (hs : SW h w0 w na np ns A P S ca cp cs) :
    Hid (Blk ((((((((w.setCell ⟨h, 0, none⟩ (.slice A na ca)).setCell ⟨h, 1, none⟩ (.slice none 0 0)).setCell ⟨h, 2, none⟩ (.slice P np cp)).setCell ⟨h, 3, none⟩ (.slice S ns cs)).setCell ⟨h, 4, none⟩ (.slice none 0 0)).setCell ⟨h, 5, none⟩ (.bool false)).setCell ⟨h, 6, none⟩ (.string ⟨#[]⟩)).setCell ⟨h, 7, none⟩ (.string ⟨#[]⟩)) h 35 (worksV na np ns A P S ca cp cs)) ∧ Hid (WkO h ((((((((w.setCell ⟨h, 0, none⟩ (.slice A na ca)).setCell ⟨h, 1, none⟩ (.slice none 0 0)).setCell ⟨h, 2, none⟩ (.slice P np cp)).setCell ⟨h, 3, none⟩ (.slice S ns cs)).setCell ⟨h, 4, none⟩ (.slice none 0 0)).setCell ⟨h, 5, none⟩ (.bool false)).setCell ⟨h, 6, none⟩ (.string ⟨#[]⟩)).setCell ⟨h, 7, none⟩ (.string ⟨#[]⟩)) na np ns A P S ca cp cs) ∧ Hid (Below h w0 ((((((((w.setCell ⟨h, 0, none⟩ (.slice A na ca)).setCell ⟨h, 1, none⟩ (.slice none 0 0)).setCell ⟨h, 2, none⟩ (.slice P np cp)).setCell ⟨h, 3, none⟩ (.slice S ns cs)).setCell ⟨h, 4, none⟩ (.slice none 0 0)).setCell ⟨h, 5, none⟩ (.bool false)).setCell ⟨h, 6, none⟩ (.string ⟨#[]⟩)).setCell ⟨h, 7, none⟩ (.string ⟨#[]⟩))) := by
  have z0 := hs.Z
  have k0 : WkO h w na np ns A P S ca cp cs := hs.O
  have z1 := z0.seti 0 (.slice A na ca) (cs2 := #[.slice A na ca, .slice none 0 0, .slice none 0 0, .slice none 0 0, .slice none 0 0, .bool false, .string ⟨#[]⟩, .string ⟨#[]⟩]) rfl
  have k1 := (⟨own_set_far k0.oa z0 (by decide) 0 (.slice A na ca), own_set_far k0.op z0 (by decide) 0 (.slice A na ca), own_set_far k0.os z0 (by decide) 0 (.slice A na ca)⟩ : WkO h _ na np ns A P S ca cp cs)
  have z2 := z1.seti 1 (.slice none 0 0) (cs2 := #[.slice A na ca, .slice none 0 0, .slice none 0 0, .slice none 0 0, .slice none 0 0, .bool false, .string ⟨#[]⟩, .string ⟨#[]⟩]) rfl
  have k2 := (⟨own_set_far k1.oa z1 (by decide) 1 (.slice none 0 0), own_set_far k1.op z1 (by decide) 1 (.slice none 0 0), own_set_far k1.os z1 (by decide) 1 (.slice none 0 0)⟩ : WkO h _ na np ns A P S ca cp cs)
  have z3 := z2.seti 2 (.slice P np cp) (cs2 := #[.slice A na ca, .slice none 0 0, .slice P np cp, .slice none 0 0, .slice none 0 0, .bool false, .string ⟨#[]⟩, .string ⟨#[]⟩]) rfl
  have k3 := (⟨own_set_far k2.oa z2 (by decide) 2 (.slice P np cp), own_set_far k2.op z2 (by decide) 2 (.slice P np cp), own_set_far k2.os z2 (by decide) 2 (.slice P np cp)⟩ : WkO h _ na np ns A P S ca cp cs)
  have z4 := z3.seti 3 (.slice S ns cs) (cs2 := #[.slice A na ca, .slice none 0 0, .slice P np cp, .slice S ns cs, .slice none 0 0, .bool false, .string ⟨#[]⟩, .string ⟨#[]⟩]) rfl
  have k4 := (⟨own_set_far k3.oa z3 (by decide) 3 (.slice S ns cs), own_set_far k3.op z3 (by decide) 3 (.slice S ns cs), own_set_far k3.os z3 (by decide) 3 (.slice S ns cs)⟩ : WkO h _ na np ns A P S ca cp cs)
  have z5 := z4.seti 4 (.slice none 0 0) (cs2 := #[.slice A na ca, .slice none 0 0, .slice P np cp, .slice S ns cs, .slice none 0 0, .bool false, .string ⟨#[]⟩, .string ⟨#[]⟩]) rfl
  have k5 := (⟨own_set_far k4.oa z4 (by decide) 4 (.slice none 0 0), own_set_far k4.op z4 (by decide) 4 (.slice none 0 0), own_set_far k4.os z4 (by decide) 4 (.slice none 0 0)⟩ : WkO h _ na np ns A P S ca cp cs)
  have z6 := z5.seti 5 (.bool false) (cs2 := #[.slice A na ca, .slice none 0 0, .slice P np cp, .slice S ns cs, .slice none 0 0, .bool false, .string ⟨#[]⟩, .string ⟨#[]⟩]) rfl
  have k6 := (⟨own_set_far k5.oa z5 (by decide) 5 (.bool false), own_set_far k5.op z5 (by decide) 5 (.bool false), own_set_far k5.os z5 (by decide) 5 (.bool false)⟩ : WkO h _ na np ns A P S ca cp cs)
  have z7 := z6.seti 6 (.string ⟨#[]⟩) (cs2 := #[.slice A na ca, .slice none 0 0, .slice P np cp, .slice S ns cs, .slice none 0 0, .bool false, .string ⟨#[]⟩, .string ⟨#[]⟩]) rfl
  have k7 := (⟨own_set_far k6.oa z6 (by decide) 6 (.string ⟨#[]⟩), own_set_far k6.op z6 (by decide) 6 (.string ⟨#[]⟩), own_set_far k6.os z6 (by decide) 6 (.string ⟨#[]⟩)⟩ : WkO h _ na np ns A P S ca cp cs)
  have z8 := z7.seti 7 (.string ⟨#[]⟩) (cs2 := #[.slice A na ca, .slice none 0 0, .slice P np cp, .slice S ns cs, .slice none 0 0, .bool false, .string ⟨#[]⟩, .string ⟨#[]⟩]) rfl
  have k8 := (⟨own_set_far k7.oa z7 (by decide) 7 (.string ⟨#[]⟩), own_set_far k7.op z7 (by decide) 7 (.string ⟨#[]⟩), own_set_far k7.os z7 (by decide) 7 (.string ⟨#[]⟩)⟩ : WkO h _ na np ns A P S ca cp cs)
  exact ⟨z8, k8, ((((((((hs.B.setCell (p := ⟨h, 0, none⟩) (Nat.le_refl h) _).setCell (p := ⟨h, 1, none⟩) (Nat.le_refl h) _).setCell (p := ⟨h, 2, none⟩) (Nat.le_refl h) _).setCell (p := ⟨h, 3, none⟩) (Nat.le_refl h) _).setCell (p := ⟨h, 4, none⟩) (Nat.le_refl h) _).setCell (p := ⟨h, 5, none⟩) (Nat.le_refl h) _).setCell (p := ⟨h, 6, none⟩) (Nat.le_refl h) _).setCell (p := ⟨h, 7, none⟩) (Nat.le_refl h) _)⟩
end

theorem blk_two (w : World) (o : Obj) (t : TypeId) (cs : Array Value) : Blk ((w.alloc o).alloc (.cells cs t)) (w.heap.size + 1) t cs := by
  have := Blk.new (w.alloc o) t cs
  rwa [World.size_alloc] at this
theorem of_14 (w : World) : Calls Tryz.prog 13 #[.int .i64 1, .int .i64 4] w fun e w' => e = .returned (.agg #[.bool false, .string ⟨(digs 1).toArray⟩, .string ⟨(digs 4).toArray⟩]) ∧ Below w.heap.size w w' :=
  of_any 1 4 w (by omega) (by omega) (by omega) (by omega)
theorem info_arm : (Tryz.prog.info? 60).map (fun i => (i.zero, i.size, i.bytes)) = some (some (.agg (armC ⟨#[]⟩).toArray), 12, 168) := by kernel_rfl
theorem info_part : (Tryz.prog.info? 63).map (fun i => (i.zero, i.size, i.bytes)) = some (some (.agg (partC ⟨#[]⟩).toArray), 12, 168) := by kernel_rfl
theorem info_slot : (Tryz.prog.info? 66).map (fun i => (i.zero, i.size, i.bytes)) = some (some (.agg (.string ⟨#[]⟩ :: (frame0 ++ [.bool false, .string ⟨#[]⟩, .string ⟨#[]⟩])).toArray), 14, 184) := by kernel_rfl
set_option maxHeartbeats 40000000 in
theorem Small_any (A : Option Addr) (n c : Nat) (xs : List Int) (w : World) (hi : IntArg w A n c xs) :
    Calls Tryz.prog 6 #[.slice A n c] w fun e w' => ∃ (na np ns : Nat) (B1 B2 B3 : Option Addr) (c1 c2 c3 : Nat), e = .returned (.agg (worksV na np ns B1 B2 B3 c1 c2 c3)) ∧ (1 ≤ na ∧ na ≤ 2) ∧ (1 ≤ np ∧ np ≤ 2) ∧ (1 ≤ ns ∧ ns ≤ 2) ∧ WkO w.heap.size w' na np ns B1 B2 B3 c1 c2 c3 ∧ Below w.heap.size w w' := by
  have HI := Lib.hid hi
  clear hi
  have B1 := Lib.hid ((Below.refl w.heap.size w).alloc (Nat.le_refl _) (.cells #[.slice none 0 0, .slice none 0 0, .slice none 0 0, .slice none 0 0, .slice none 0 0, .bool false, .string ⟨#[]⟩, .string ⟨#[]⟩] 35))
  have S2 := Lib.hid ((HI.out.strm' B1.out).alloc (.cells #[.slice none 0 0, .slice none 0 0, .slice none 0 0, .slice none 0 0, .slice none 0 0, .bool false, .string ⟨#[]⟩, .string ⟨#[]⟩] 35))
  have B2 := Lib.hid (B1.out.alloc B1.out.size (.cells #[.slice A n c] 49))
  have B3 := Lib.hid (B2.out.alloc B2.out.size (.cells #[.slice none 0 0, .slice none 0 0, .slice none 0 0, .slice none 0 0, .slice none 0 0, .bool false, .string ⟨#[]⟩, .string ⟨#[]⟩] 35))
  have Z3 := Lib.hid (((Blk.new w 35 #[.slice none 0 0, .slice none 0 0, .slice none 0 0, .slice none 0 0, .slice none 0 0, .bool false, .string ⟨#[]⟩, .string ⟨#[]⟩]).alloc (.cells #[.slice A n c] 49)).alloc (.cells #[.slice none 0 0, .slice none 0 0, .slice none 0 0, .slice none 0 0, .slice none 0 0, .bool false, .string ⟨#[]⟩, .string ⟨#[]⟩] 35))
  have X3 := Lib.hid (Blk.new ((w.alloc (.cells #[.slice none 0 0, .slice none 0 0, .slice none 0 0, .slice none 0 0, .slice none 0 0, .bool false, .string ⟨#[]⟩, .string ⟨#[]⟩] 35)).alloc (.cells #[.slice A n c] 49)) 35 #[.slice none 0 0, .slice none 0 0, .slice none 0 0, .slice none 0 0, .slice none 0 0, .bool false, .string ⟨#[]⟩, .string ⟨#[]⟩])
  simp only [World.size_alloc] at S2 X3
  have W3 : Hid (SW w.heap.size w (((w.alloc (.cells #[.slice none 0 0, .slice none 0 0, .slice none 0 0, .slice none 0 0, .slice none 0 0, .bool false, .string ⟨#[]⟩, .string ⟨#[]⟩] 35)).alloc (.cells #[.slice A n c] 49)).alloc (.cells #[.slice none 0 0, .slice none 0 0, .slice none 0 0, .slice none 0 0, .slice none 0 0, .bool false, .string ⟨#[]⟩, .string ⟨#[]⟩] 35)) 0 0 0 none none none 0 0 0) :=
    ⟨Z3.out, S2.out, X3.out, ⟨World.ownsRow_nil _ _ _ _, World.ownsRow_nil _ _ _ _, World.ownsRow_nil _ _ _ _⟩, B3.out⟩
  clear B1 S2 B2 B3 Z3 X3 HI
  go_enter Tryz.func6, Tryz.ntmps6
  go_wp2_with fail
  generalize hw3 : ((w.alloc (.cells #[.slice none 0 0, .slice none 0 0, .slice none 0 0, .slice none 0 0, .slice none 0 0, .bool false, .string ⟨#[]⟩, .string ⟨#[]⟩] 35)).alloc (.cells #[.slice A n c] 49)).alloc (.cells #[.slice none 0 0, .slice none 0 0, .slice none 0 0, .slice none 0 0, .slice none 0 0, .bool false, .string ⟨#[]⟩, .string ⟨#[]⟩] 35) = w3 at W3 ⊢
  clear hw3
  refine (next_any w.heap.size (w.heap.size + 1) 2 w3 W3.out.st (by omega) (by omega)).mono ?_
  rintro e w4 ⟨r, rfl, hr0, hr1, hs4, hg4⟩
  have W4 := Lib.hid (W3.out.next hs4 hg4)
  clear hs4 hg4 W3
  obtain ⟨j0, ji, jz0, jz1, jz2⟩ := info_parts info_arm
  obtain ⟨j1, ki, kz0, kz1, kz2⟩ := info_parts info_part
  obtain ⟨j2, li, lz0, lz1, lz2⟩ := info_parts info_slot
  have hr00 := hr0
  have hr10 := hr1
  obtain ⟨q1, rfl⟩ := Int.eq_ofNat_of_zero_le hr0
  go_wp2_with fail
  go_loopw [14] (fun i wr => ∃ (k : Nat) (A : Option Addr) (ca : Nat), i = .int .i64 k ∧ k ≤ 1 + q1 ∧ Hid (SW w.heap.size w wr k 0 0 A none none ca 0 0)) (fun i _ => 1 + q1 - (intOf i).toNat)
  case atStart => exact ⟨0, none, 0, rfl, by omega, W4⟩
  case round =>
    clear W4
    obtain ⟨k, A1, ca, rfl, hk, W5⟩ := hrel
    obtain ⟨x0, x1, x2, x3, x4, x5, x6, x7⟩ := W5.out.cells
    have f0 := W5.out.X.frozen 0
    by_cases hlt : k < 1 + q1
    · have hk2 : k = 0 ∨ k = 1 := by omega
      rcases hk2 with rfl | rfl
      · have KB := Lib.hid (((Below.refl wr.heap.size wr).drew.alloc (Nat.le_refl _) (.cells #[.string ⟨#[97, 110, 110]⟩, .string ⟨#[98, 111, 98]⟩] 9)).alloc (by simp) (.cells #[.string ⟨#[97, 110, 110]⟩, .bool false, .string ⟨#[]⟩, .string ⟨#[]⟩, .bool false, .string ⟨#[]⟩, .string ⟨#[]⟩, .bool false, .bool false, .string ⟨#[]⟩, .string ⟨#[]⟩, .slice none 0 0] 60))
        have W6 := Lib.hid (W5.out.keep KB.out)
        have S6 := Lib.hid (Src.new (m := 1) (c := 1) (size := 12) (Blk.new ((wr.drew).alloc (.cells #[.string ⟨#[97, 110, 110]⟩, .string ⟨#[98, 111, 98]⟩] 9)) 60 #[.string ⟨#[97, 110, 110]⟩, .bool false, .string ⟨#[]⟩, .string ⟨#[]⟩, .bool false, .string ⟨#[]⟩, .string ⟨#[]⟩, .bool false, .bool false, .string ⟨#[]⟩, .string ⟨#[]⟩, .slice none 0 0]) rfl)
        have H6 := Lib.hid W6.out.le
        have E6 : Hid (∀ y ∈ (#[.string ⟨#[97, 110, 110]⟩, .bool false, .string ⟨#[]⟩, .string ⟨#[]⟩, .bool false, .string ⟨#[]⟩, .string ⟨#[]⟩, .bool false, .bool false, .string ⟨#[]⟩, .string ⟨#[]⟩, .slice none 0 0] : Array Value).toList, y.oneCell' = true) := armC_one ⟨#[97, 110, 110]⟩
        simp only [World.size_alloc] at S6
        have x0a := (W5.out.X.alloc (.cells #[.string ⟨#[97, 110, 110]⟩, .string ⟨#[98, 111, 98]⟩] 9)).cell 0
        have x0b := ((W5.out.X.alloc (.cells #[.string ⟨#[97, 110, 110]⟩, .string ⟨#[98, 111, 98]⟩] 9)).alloc (.cells #[.string ⟨#[97, 110, 110]⟩, .bool false, .string ⟨#[]⟩, .string ⟨#[]⟩, .bool false, .string ⟨#[]⟩, .string ⟨#[]⟩, .bool false, .bool false, .string ⟨#[]⟩, .string ⟨#[]⟩, .slice none 0 0] 60)).cell 0
        clear KB
        go_wp2_with fail
        go_region_law (refine step_append_src _ rfl (.tmp 18) (.tmp 24) 27 rfl w.heap.size 60 j0 _ 12 168 Tryz.underlying27 ji jz0 jz1 jz2 rfl (by decide) (.slice A1 0 ca) 0 _ rfl W6.out.O.oa 1 _ _ rfl S6.out E6.out (by unfold maxLen; omega) (by omega) H6.out ?_; intro v7 w7 hown7 hg7; obtain ⟨A7, c7, hv7⟩ := own_slice hown7; subst hv7; have W7 := Lib.hid (W6.out.arm hown7 hg7); have y7 := (W6.out.X.grown hg7 (own_blk_ne' W6.out.X W6.out.O.oa (by decide))).cell 0; have g7 := (W6.out.X.grown hg7 (own_blk_ne' W6.out.X W6.out.O.oa (by decide))).frozen 0; clear hown7 hg7)
        all_goals
          go_wp2_with fail
          go_roundw
          case rel => exact ⟨1, A7, c7, rfl, by omega, W7⟩
          case measure => simp [intOf] <;> omega
      · have KB := Lib.hid (((Below.refl wr.heap.size wr).drew.alloc (Nat.le_refl _) (.cells #[.string ⟨#[97, 110, 110]⟩, .string ⟨#[98, 111, 98]⟩] 9)).alloc (by simp) (.cells #[.string ⟨#[98, 111, 98]⟩, .bool false, .string ⟨#[]⟩, .string ⟨#[]⟩, .bool false, .string ⟨#[]⟩, .string ⟨#[]⟩, .bool false, .bool false, .string ⟨#[]⟩, .string ⟨#[]⟩, .slice none 0 0] 60))
        have W6 := Lib.hid (W5.out.keep KB.out)
        have S6 := Lib.hid (Src.new (m := 1) (c := 1) (size := 12) (Blk.new ((wr.drew).alloc (.cells #[.string ⟨#[97, 110, 110]⟩, .string ⟨#[98, 111, 98]⟩] 9)) 60 #[.string ⟨#[98, 111, 98]⟩, .bool false, .string ⟨#[]⟩, .string ⟨#[]⟩, .bool false, .string ⟨#[]⟩, .string ⟨#[]⟩, .bool false, .bool false, .string ⟨#[]⟩, .string ⟨#[]⟩, .slice none 0 0]) rfl)
        have H6 := Lib.hid W6.out.le
        have E6 : Hid (∀ y ∈ (#[.string ⟨#[98, 111, 98]⟩, .bool false, .string ⟨#[]⟩, .string ⟨#[]⟩, .bool false, .string ⟨#[]⟩, .string ⟨#[]⟩, .bool false, .bool false, .string ⟨#[]⟩, .string ⟨#[]⟩, .slice none 0 0] : Array Value).toList, y.oneCell' = true) := armC_one ⟨#[98, 111, 98]⟩
        simp only [World.size_alloc] at S6
        have x0a := (W5.out.X.alloc (.cells #[.string ⟨#[97, 110, 110]⟩, .string ⟨#[98, 111, 98]⟩] 9)).cell 0
        have x0b := ((W5.out.X.alloc (.cells #[.string ⟨#[97, 110, 110]⟩, .string ⟨#[98, 111, 98]⟩] 9)).alloc (.cells #[.string ⟨#[98, 111, 98]⟩, .bool false, .string ⟨#[]⟩, .string ⟨#[]⟩, .bool false, .string ⟨#[]⟩, .string ⟨#[]⟩, .bool false, .bool false, .string ⟨#[]⟩, .string ⟨#[]⟩, .slice none 0 0] 60)).cell 0
        clear KB
        go_wp2_with fail
        go_region_law (refine step_append_src _ rfl (.tmp 18) (.tmp 24) 27 rfl w.heap.size 60 j0 _ 12 168 Tryz.underlying27 ji jz0 jz1 jz2 rfl (by decide) (.slice A1 1 ca) 1 _ rfl W6.out.O.oa 1 _ _ rfl S6.out E6.out (by unfold maxLen; omega) (by omega) H6.out ?_; intro v7 w7 hown7 hg7; obtain ⟨A7, c7, hv7⟩ := own_slice hown7; subst hv7; have W7 := Lib.hid (W6.out.arm hown7 hg7); have y7 := (W6.out.X.grown hg7 (own_blk_ne' W6.out.X W6.out.O.oa (by decide))).cell 0; have g7 := (W6.out.X.grown hg7 (own_blk_ne' W6.out.X W6.out.O.oa (by decide))).frozen 0; clear hown7 hg7)
        all_goals
          go_wp2_with fail
          go_roundw
          case rel => exact ⟨2, A7, c7, rfl, by omega, W7⟩
          case measure => simp [intOf] <;> omega
    · have hkq : k = 1 + q1 := by omega
      subst hkq
      clear x0 x1 x2 x3 x4 x5 x6 x7 f0
      obtain ⟨P1, cc1, hPc⟩ : ∃ (P : Option Addr) (cc : Nat), P = A1 ∧ cc = ca := ⟨A1, ca, rfl, rfl⟩
      obtain ⟨rfl, rfl⟩ := hPc
      go_wp2_with fail
      refine (next_any w.heap.size (w.heap.size + 1) 2 wr W5.out.st (by omega) (by omega)).mono ?_
      rintro e w14 ⟨r1, rfl, hr0, hr1, hs4, hg4⟩
      have W4 := Lib.hid (W5.out.next hs4 hg4)
      clear hs4 hg4 W5
      have hr01 := hr0
      have hr11 := hr1
      obtain ⟨q2, rfl⟩ := Int.eq_ofNat_of_zero_le hr0
      go_wp2_with fail
      go_loopw [31] (fun i wr => ∃ (k : Nat) (A : Option Addr) (ca : Nat), i = .int .i64 k ∧ k ≤ 1 + q2 ∧ Hid (SW w.heap.size w wr (1 + q1) k 0 P1 A none cc1 ca 0)) (fun i _ => 1 + q2 - (intOf i).toNat)
      case atStart => exact ⟨0, none, 0, rfl, by omega, W4⟩
      case round =>
        clear W4
        obtain ⟨k, A1, ca, rfl, hk, W5⟩ := hrel
        obtain ⟨x0, x1, x2, x3, x4, x5, x6, x7⟩ := W5.out.cells
        have f0 := W5.out.X.frozen 2
        by_cases hlt : k < 1 + q2
        · have hk2 : k = 0 ∨ k = 1 := by omega
          rcases hk2 with rfl | rfl
          · have KB := Lib.hid (((Below.refl wr.heap.size wr).drew.alloc (Nat.le_refl _) (.cells #[.string ⟨#[98, 111, 108, 116]⟩, .string ⟨#[110, 117, 116]⟩] 9)).alloc (by simp) (.cells #[.string ⟨#[98, 111, 108, 116]⟩, .slice none 0 0, .bool false, .string ⟨#[]⟩, .string ⟨#[]⟩, .bool false, .string ⟨#[]⟩, .string ⟨#[]⟩, .bool false, .bool false, .string ⟨#[]⟩, .string ⟨#[]⟩] 63))
            have W6 := Lib.hid (W5.out.keep KB.out)
            have S6 := Lib.hid (Src.new (m := 1) (c := 1) (size := 12) (Blk.new ((wr.drew).alloc (.cells #[.string ⟨#[98, 111, 108, 116]⟩, .string ⟨#[110, 117, 116]⟩] 9)) 63 #[.string ⟨#[98, 111, 108, 116]⟩, .slice none 0 0, .bool false, .string ⟨#[]⟩, .string ⟨#[]⟩, .bool false, .string ⟨#[]⟩, .string ⟨#[]⟩, .bool false, .bool false, .string ⟨#[]⟩, .string ⟨#[]⟩]) rfl)
            have H6 := Lib.hid W6.out.le
            have E6 : Hid (∀ y ∈ (#[.string ⟨#[98, 111, 108, 116]⟩, .slice none 0 0, .bool false, .string ⟨#[]⟩, .string ⟨#[]⟩, .bool false, .string ⟨#[]⟩, .string ⟨#[]⟩, .bool false, .bool false, .string ⟨#[]⟩, .string ⟨#[]⟩] : Array Value).toList, y.oneCell' = true) := partC_one ⟨#[98, 111, 108, 116]⟩
            simp only [World.size_alloc] at S6
            have x0a := (W5.out.X.alloc (.cells #[.string ⟨#[98, 111, 108, 116]⟩, .string ⟨#[110, 117, 116]⟩] 9)).cell 2
            have x0b := ((W5.out.X.alloc (.cells #[.string ⟨#[98, 111, 108, 116]⟩, .string ⟨#[110, 117, 116]⟩] 9)).alloc (.cells #[.string ⟨#[98, 111, 108, 116]⟩, .slice none 0 0, .bool false, .string ⟨#[]⟩, .string ⟨#[]⟩, .bool false, .string ⟨#[]⟩, .string ⟨#[]⟩, .bool false, .bool false, .string ⟨#[]⟩, .string ⟨#[]⟩] 63)).cell 2
            clear KB
            go_wp2_with fail
            go_region_law (refine step_append_src _ rfl (.tmp 35) (.tmp 41) 29 rfl w.heap.size 63 j1 _ 12 168 Tryz.underlying29 ki kz0 kz1 kz2 rfl (by decide) (.slice A1 0 ca) 0 _ rfl W6.out.O.op 1 _ _ rfl S6.out E6.out (by unfold maxLen; omega) (by omega) H6.out ?_; intro v7 w7 hown7 hg7; obtain ⟨A7, c7, hv7⟩ := own_slice hown7; subst hv7; have W7 := Lib.hid (W6.out.part hown7 hg7); have y7 := (W6.out.X.grown hg7 (own_blk_ne' W6.out.X W6.out.O.op (by decide))).cell 2; have g7 := (W6.out.X.grown hg7 (own_blk_ne' W6.out.X W6.out.O.op (by decide))).frozen 2; clear hown7 hg7)
            all_goals
              go_wp2_with fail
              go_roundw
              case rel => exact ⟨1, A7, c7, rfl, by omega, W7⟩
              case measure => simp [intOf] <;> omega
          · have KB := Lib.hid (((Below.refl wr.heap.size wr).drew.alloc (Nat.le_refl _) (.cells #[.string ⟨#[98, 111, 108, 116]⟩, .string ⟨#[110, 117, 116]⟩] 9)).alloc (by simp) (.cells #[.string ⟨#[110, 117, 116]⟩, .slice none 0 0, .bool false, .string ⟨#[]⟩, .string ⟨#[]⟩, .bool false, .string ⟨#[]⟩, .string ⟨#[]⟩, .bool false, .bool false, .string ⟨#[]⟩, .string ⟨#[]⟩] 63))
            have W6 := Lib.hid (W5.out.keep KB.out)
            have S6 := Lib.hid (Src.new (m := 1) (c := 1) (size := 12) (Blk.new ((wr.drew).alloc (.cells #[.string ⟨#[98, 111, 108, 116]⟩, .string ⟨#[110, 117, 116]⟩] 9)) 63 #[.string ⟨#[110, 117, 116]⟩, .slice none 0 0, .bool false, .string ⟨#[]⟩, .string ⟨#[]⟩, .bool false, .string ⟨#[]⟩, .string ⟨#[]⟩, .bool false, .bool false, .string ⟨#[]⟩, .string ⟨#[]⟩]) rfl)
            have H6 := Lib.hid W6.out.le
            have E6 : Hid (∀ y ∈ (#[.string ⟨#[110, 117, 116]⟩, .slice none 0 0, .bool false, .string ⟨#[]⟩, .string ⟨#[]⟩, .bool false, .string ⟨#[]⟩, .string ⟨#[]⟩, .bool false, .bool false, .string ⟨#[]⟩, .string ⟨#[]⟩] : Array Value).toList, y.oneCell' = true) := partC_one ⟨#[110, 117, 116]⟩
            simp only [World.size_alloc] at S6
            have x0a := (W5.out.X.alloc (.cells #[.string ⟨#[98, 111, 108, 116]⟩, .string ⟨#[110, 117, 116]⟩] 9)).cell 2
            have x0b := ((W5.out.X.alloc (.cells #[.string ⟨#[98, 111, 108, 116]⟩, .string ⟨#[110, 117, 116]⟩] 9)).alloc (.cells #[.string ⟨#[110, 117, 116]⟩, .slice none 0 0, .bool false, .string ⟨#[]⟩, .string ⟨#[]⟩, .bool false, .string ⟨#[]⟩, .string ⟨#[]⟩, .bool false, .bool false, .string ⟨#[]⟩, .string ⟨#[]⟩] 63)).cell 2
            clear KB
            go_wp2_with fail
            go_region_law (refine step_append_src _ rfl (.tmp 35) (.tmp 41) 29 rfl w.heap.size 63 j1 _ 12 168 Tryz.underlying29 ki kz0 kz1 kz2 rfl (by decide) (.slice A1 1 ca) 1 _ rfl W6.out.O.op 1 _ _ rfl S6.out E6.out (by unfold maxLen; omega) (by omega) H6.out ?_; intro v7 w7 hown7 hg7; obtain ⟨A7, c7, hv7⟩ := own_slice hown7; subst hv7; have W7 := Lib.hid (W6.out.part hown7 hg7); have y7 := (W6.out.X.grown hg7 (own_blk_ne' W6.out.X W6.out.O.op (by decide))).cell 2; have g7 := (W6.out.X.grown hg7 (own_blk_ne' W6.out.X W6.out.O.op (by decide))).frozen 2; clear hown7 hg7)
            all_goals
              go_wp2_with fail
              go_roundw
              case rel => exact ⟨2, A7, c7, rfl, by omega, W7⟩
              case measure => simp [intOf] <;> omega
        · have hkq : k = 1 + q2 := by omega
          subst hkq
          clear x0 x1 x2 x3 x4 x5 x6 x7 f0
          obtain ⟨P2, cc2, hPc⟩ : ∃ (P : Option Addr) (cc : Nat), P = A1 ∧ cc = ca := ⟨A1, ca, rfl, rfl⟩
          obtain ⟨rfl, rfl⟩ := hPc
          go_wp2_with fail
          refine (next_any w.heap.size (w.heap.size + 1) 2 wr W5.out.st (by omega) (by omega)).mono ?_
          rintro e w24 ⟨r2, rfl, hr0, hr1, hs4, hg4⟩
          have W4 := Lib.hid (W5.out.next hs4 hg4)
          clear hs4 hg4 W5
          have hr02 := hr0
          have hr12 := hr1
          obtain ⟨q3, rfl⟩ := Int.eq_ofNat_of_zero_le hr0
          go_wp2_with fail
          go_loopw [48] (fun i wr => ∃ (k : Nat) (A : Option Addr) (ca : Nat), i = .int .i64 k ∧ k ≤ 1 + q3 ∧ Hid (SW w.heap.size w wr (1 + q1) (1 + q2) k P1 P2 A cc1 cc2 ca)) (fun i _ => 1 + q3 - (intOf i).toNat)
          case atStart => exact ⟨0, none, 0, rfl, by omega, W4⟩
          case round =>
            clear W4
            obtain ⟨k, A1, ca, rfl, hk, W5⟩ := hrel
            obtain ⟨x0, x1, x2, x3, x4, x5, x6, x7⟩ := W5.out.cells
            have f0 := W5.out.X.frozen 3
            by_cases hlt : k < 1 + q3
            · have hk2 : k = 0 ∨ k = 1 := by omega
              rcases hk2 with rfl | rfl
              · have W5d := Lib.hid (W5.out.keep (Below.refl wr.heap.size wr).drew)
                have KS := Lib.hid ((Below.refl wr.heap.size wr).drew.alloc (Nat.le_refl _) (.cells #[.string ⟨#[104, 101, 114, 101]⟩, .string ⟨#[116, 104, 101, 114, 101]⟩] 9))
                have W6 := Lib.hid (W5.out.keep KS.out)
                have SB6 : Hid (Blk (wr.drew.alloc (.cells #[.string ⟨#[104, 101, 114, 101]⟩, .string ⟨#[116, 104, 101, 114, 101]⟩] 9)) wr.heap.size 9 #[.string ⟨#[104, 101, 114, 101]⟩, .string ⟨#[116, 104, 101, 114, 101]⟩]) := Blk.new wr.drew 9 #[.string ⟨#[104, 101, 114, 101]⟩, .string ⟨#[116, 104, 101, 114, 101]⟩]
                have x0a := (W5.out.X.alloc (.cells #[.string ⟨#[104, 101, 114, 101]⟩, .string ⟨#[116, 104, 101, 114, 101]⟩] 9)).cell 3
                have E6 : Hid (∀ y ∈ (#[.string ⟨#[104, 101, 114, 101]⟩, .bool false, .string ⟨#[]⟩, .string ⟨#[]⟩, .bool false, .string ⟨#[]⟩, .string ⟨#[]⟩, .bool false, .bool false, .string ⟨#[]⟩, .string ⟨#[]⟩, .bool false, .string ⟨(digs 1).toArray⟩, .string ⟨(digs 4).toArray⟩] : Array Value).toList, y.oneCell' = true) := slotC_one ⟨#[104, 101, 114, 101]⟩
                clear KS
                go_wp2_with fail
                go_region_law (first
                  | (go_simp; go_at_call 13; refine (of_14 _).mono ?_; rintro e w7 ⟨rfl, hb7⟩; (first | (have KW := Lib.hid (W6.out.keep hb7); have s7 := (SB6.out.below hb7 SB6.out.lt).cell 0) | have KW := Lib.hid (W5d.out.keep hb7)); have kx := KW.out.X.cell 3; have kxa := (KW.out.X.alloc (.cells #[.string ⟨#[104, 101, 114, 101]⟩, .string ⟨#[116, 104, 101, 114, 101]⟩] 9)).cell 3; have kxb := ((KW.out.X.alloc (.cells #[.string ⟨#[104, 101, 114, 101]⟩, .string ⟨#[116, 104, 101, 114, 101]⟩] 9)).alloc (.cells #[.string ⟨#[104, 101, 114, 101]⟩, .bool false, .string ⟨#[]⟩, .string ⟨#[]⟩, .bool false, .string ⟨#[]⟩, .string ⟨#[]⟩, .bool false, .bool false, .string ⟨#[]⟩, .string ⟨#[]⟩, .bool false, .string ⟨(digs 1).toArray⟩, .string ⟨(digs 4).toArray⟩] 66)).cell 3; have kxc := (KW.out.X.alloc (.cells #[.string ⟨#[104, 101, 114, 101]⟩, .bool false, .string ⟨#[]⟩, .string ⟨#[]⟩, .bool false, .string ⟨#[]⟩, .string ⟨#[]⟩, .bool false, .bool false, .string ⟨#[]⟩, .string ⟨#[]⟩, .bool false, .string ⟨(digs 1).toArray⟩, .string ⟨(digs 4).toArray⟩] 66)).cell 3; have KA := Lib.hid (KW.out.keep ((Below.refl w7.heap.size w7).alloc (Nat.le_refl _) (.cells #[.string ⟨#[104, 101, 114, 101]⟩, .bool false, .string ⟨#[]⟩, .string ⟨#[]⟩, .bool false, .string ⟨#[]⟩, .string ⟨#[]⟩, .bool false, .bool false, .string ⟨#[]⟩, .string ⟨#[]⟩, .bool false, .string ⟨(digs 1).toArray⟩, .string ⟨(digs 4).toArray⟩] 66))); have KB := Lib.hid (KW.out.keep (((Below.refl w7.heap.size w7).alloc (Nat.le_refl _) (.cells #[.string ⟨#[104, 101, 114, 101]⟩, .string ⟨#[116, 104, 101, 114, 101]⟩] 9)).alloc (by simp) (.cells #[.string ⟨#[104, 101, 114, 101]⟩, .bool false, .string ⟨#[]⟩, .string ⟨#[]⟩, .bool false, .string ⟨#[]⟩, .string ⟨#[]⟩, .bool false, .bool false, .string ⟨#[]⟩, .string ⟨#[]⟩, .bool false, .string ⟨(digs 1).toArray⟩, .string ⟨(digs 4).toArray⟩] 66))); clear hb7)
                  | (refine step_append_src _ rfl (.tmp 52) (.tmp 59) 30 rfl w.heap.size 66 j2 _ 14 184 Tryz.underlying30 li lz0 lz1 lz2 rfl (by decide) (.slice A1 0 ca) 0 (flat slotC (slotN.take 0)) rfl ?_ 1 _ _ rfl ?_ E6.out (by unfold maxLen; omega) (by omega) ?_ ?_
                     · first | exact KA.out.O.os | exact KB.out.O.os
                     · first | exact Src.new (m := 1) (c := 1) (size := 14) (Blk.new _ 66 #[.string ⟨#[104, 101, 114, 101]⟩, .bool false, .string ⟨#[]⟩, .string ⟨#[]⟩, .bool false, .string ⟨#[]⟩, .string ⟨#[]⟩, .bool false, .bool false, .string ⟨#[]⟩, .string ⟨#[]⟩, .bool false, .string ⟨(digs 1).toArray⟩, .string ⟨(digs 4).toArray⟩]) rfl | exact Src.new (m := 1) (c := 1) (size := 14) (blk_two _ _ 66 #[.string ⟨#[104, 101, 114, 101]⟩, .bool false, .string ⟨#[]⟩, .string ⟨#[]⟩, .bool false, .string ⟨#[]⟩, .string ⟨#[]⟩, .bool false, .bool false, .string ⟨#[]⟩, .string ⟨#[]⟩, .bool false, .string ⟨(digs 1).toArray⟩, .string ⟨(digs 4).toArray⟩]) rfl
                     · first | exact KA.out.le | exact KB.out.le
                     intro v7 w8 hown7 hg7; obtain ⟨A7, c7, hv7⟩ := own_slice hown7; subst hv7
                     first
                     | (have W7 := Lib.hid (KA.out.slot hown7 hg7); have y7 := (KA.out.X.grown hg7 (own_blk_ne' KA.out.X KA.out.O.os (by decide))).cell 3; have g7 := (KA.out.X.grown hg7 (own_blk_ne' KA.out.X KA.out.O.os (by decide))).frozen 3; clear hown7 hg7)
                     | (have W7 := Lib.hid (KB.out.slot hown7 hg7); have y7 := (KB.out.X.grown hg7 (own_blk_ne' KB.out.X KB.out.O.os (by decide))).cell 3; have g7 := (KB.out.X.grown hg7 (own_blk_ne' KB.out.X KB.out.O.os (by decide))).frozen 3; clear hown7 hg7)))
                all_goals
                  go_wp2_with fail
                  go_roundw
                  case rel => exact ⟨1, A7, c7, rfl, by omega, W7⟩
                  case measure => simp [intOf] <;> omega
              · have W5d := Lib.hid (W5.out.keep (Below.refl wr.heap.size wr).drew)
                have KS := Lib.hid ((Below.refl wr.heap.size wr).drew.alloc (Nat.le_refl _) (.cells #[.string ⟨#[104, 101, 114, 101]⟩, .string ⟨#[116, 104, 101, 114, 101]⟩] 9))
                have W6 := Lib.hid (W5.out.keep KS.out)
                have SB6 : Hid (Blk (wr.drew.alloc (.cells #[.string ⟨#[104, 101, 114, 101]⟩, .string ⟨#[116, 104, 101, 114, 101]⟩] 9)) wr.heap.size 9 #[.string ⟨#[104, 101, 114, 101]⟩, .string ⟨#[116, 104, 101, 114, 101]⟩]) := Blk.new wr.drew 9 #[.string ⟨#[104, 101, 114, 101]⟩, .string ⟨#[116, 104, 101, 114, 101]⟩]
                have x0a := (W5.out.X.alloc (.cells #[.string ⟨#[104, 101, 114, 101]⟩, .string ⟨#[116, 104, 101, 114, 101]⟩] 9)).cell 3
                have E6 : Hid (∀ y ∈ (#[.string ⟨#[116, 104, 101, 114, 101]⟩, .bool false, .string ⟨#[]⟩, .string ⟨#[]⟩, .bool false, .string ⟨#[]⟩, .string ⟨#[]⟩, .bool false, .bool false, .string ⟨#[]⟩, .string ⟨#[]⟩, .bool false, .string ⟨(digs 1).toArray⟩, .string ⟨(digs 4).toArray⟩] : Array Value).toList, y.oneCell' = true) := slotC_one ⟨#[116, 104, 101, 114, 101]⟩
                clear KS
                go_wp2_with fail
                go_region_law (first
                  | (go_simp; go_at_call 13; refine (of_14 _).mono ?_; rintro e w7 ⟨rfl, hb7⟩; (first | (have KW := Lib.hid (W6.out.keep hb7); have s7 := (SB6.out.below hb7 SB6.out.lt).cell 1) | have KW := Lib.hid (W5d.out.keep hb7)); have kx := KW.out.X.cell 3; have kxa := (KW.out.X.alloc (.cells #[.string ⟨#[104, 101, 114, 101]⟩, .string ⟨#[116, 104, 101, 114, 101]⟩] 9)).cell 3; have kxb := ((KW.out.X.alloc (.cells #[.string ⟨#[104, 101, 114, 101]⟩, .string ⟨#[116, 104, 101, 114, 101]⟩] 9)).alloc (.cells #[.string ⟨#[116, 104, 101, 114, 101]⟩, .bool false, .string ⟨#[]⟩, .string ⟨#[]⟩, .bool false, .string ⟨#[]⟩, .string ⟨#[]⟩, .bool false, .bool false, .string ⟨#[]⟩, .string ⟨#[]⟩, .bool false, .string ⟨(digs 1).toArray⟩, .string ⟨(digs 4).toArray⟩] 66)).cell 3; have kxc := (KW.out.X.alloc (.cells #[.string ⟨#[116, 104, 101, 114, 101]⟩, .bool false, .string ⟨#[]⟩, .string ⟨#[]⟩, .bool false, .string ⟨#[]⟩, .string ⟨#[]⟩, .bool false, .bool false, .string ⟨#[]⟩, .string ⟨#[]⟩, .bool false, .string ⟨(digs 1).toArray⟩, .string ⟨(digs 4).toArray⟩] 66)).cell 3; have KA := Lib.hid (KW.out.keep ((Below.refl w7.heap.size w7).alloc (Nat.le_refl _) (.cells #[.string ⟨#[116, 104, 101, 114, 101]⟩, .bool false, .string ⟨#[]⟩, .string ⟨#[]⟩, .bool false, .string ⟨#[]⟩, .string ⟨#[]⟩, .bool false, .bool false, .string ⟨#[]⟩, .string ⟨#[]⟩, .bool false, .string ⟨(digs 1).toArray⟩, .string ⟨(digs 4).toArray⟩] 66))); have KB := Lib.hid (KW.out.keep (((Below.refl w7.heap.size w7).alloc (Nat.le_refl _) (.cells #[.string ⟨#[104, 101, 114, 101]⟩, .string ⟨#[116, 104, 101, 114, 101]⟩] 9)).alloc (by simp) (.cells #[.string ⟨#[116, 104, 101, 114, 101]⟩, .bool false, .string ⟨#[]⟩, .string ⟨#[]⟩, .bool false, .string ⟨#[]⟩, .string ⟨#[]⟩, .bool false, .bool false, .string ⟨#[]⟩, .string ⟨#[]⟩, .bool false, .string ⟨(digs 1).toArray⟩, .string ⟨(digs 4).toArray⟩] 66))); clear hb7)
                  | (refine step_append_src _ rfl (.tmp 52) (.tmp 59) 30 rfl w.heap.size 66 j2 _ 14 184 Tryz.underlying30 li lz0 lz1 lz2 rfl (by decide) (.slice A1 1 ca) 1 (flat slotC (slotN.take 1)) rfl ?_ 1 _ _ rfl ?_ E6.out (by unfold maxLen; omega) (by omega) ?_ ?_
                     · first | exact KA.out.O.os | exact KB.out.O.os
                     · first | exact Src.new (m := 1) (c := 1) (size := 14) (Blk.new _ 66 #[.string ⟨#[116, 104, 101, 114, 101]⟩, .bool false, .string ⟨#[]⟩, .string ⟨#[]⟩, .bool false, .string ⟨#[]⟩, .string ⟨#[]⟩, .bool false, .bool false, .string ⟨#[]⟩, .string ⟨#[]⟩, .bool false, .string ⟨(digs 1).toArray⟩, .string ⟨(digs 4).toArray⟩]) rfl | exact Src.new (m := 1) (c := 1) (size := 14) (blk_two _ _ 66 #[.string ⟨#[116, 104, 101, 114, 101]⟩, .bool false, .string ⟨#[]⟩, .string ⟨#[]⟩, .bool false, .string ⟨#[]⟩, .string ⟨#[]⟩, .bool false, .bool false, .string ⟨#[]⟩, .string ⟨#[]⟩, .bool false, .string ⟨(digs 1).toArray⟩, .string ⟨(digs 4).toArray⟩]) rfl
                     · first | exact KA.out.le | exact KB.out.le
                     intro v7 w8 hown7 hg7; obtain ⟨A7, c7, hv7⟩ := own_slice hown7; subst hv7
                     first
                     | (have W7 := Lib.hid (KA.out.slot hown7 hg7); have y7 := (KA.out.X.grown hg7 (own_blk_ne' KA.out.X KA.out.O.os (by decide))).cell 3; have g7 := (KA.out.X.grown hg7 (own_blk_ne' KA.out.X KA.out.O.os (by decide))).frozen 3; clear hown7 hg7)
                     | (have W7 := Lib.hid (KB.out.slot hown7 hg7); have y7 := (KB.out.X.grown hg7 (own_blk_ne' KB.out.X KB.out.O.os (by decide))).cell 3; have g7 := (KB.out.X.grown hg7 (own_blk_ne' KB.out.X KB.out.O.os (by decide))).frozen 3; clear hown7 hg7)))
                all_goals
                  go_wp2_with fail
                  go_roundw
                  case rel => exact ⟨2, A7, c7, rfl, by omega, W7⟩
                  case measure => simp [intOf] <;> omega
            · have hkq : k = 1 + q3 := by omega
              subst hkq
              obtain ⟨⟨z0, z1, z2, z3, z4, z5, z6, z7⟩, ⟨f0', f1, f2, f3, f4, f5, f6, f7⟩⟩ := W5.out.zc
              go_wp2_with fail
              obtain ⟨Z8, O8, B8⟩ := W5.out.done
              generalize ((((((((wr.setCell ⟨w.heap.size, 0, none⟩ (.slice P1 (1 + q1) cc1)).setCell ⟨w.heap.size, 1, none⟩ (.slice none 0 0)).setCell ⟨w.heap.size, 2, none⟩ (.slice P2 (1 + q2) cc2)).setCell ⟨w.heap.size, 3, none⟩ (.slice A1 (1 + q3) ca)).setCell ⟨w.heap.size, 4, none⟩ (.slice none 0 0)).setCell ⟨w.heap.size, 5, none⟩ (.bool false)).setCell ⟨w.heap.size, 6, none⟩ (.string ⟨#[]⟩)).setCell ⟨w.heap.size, 7, none⟩ (.string ⟨#[]⟩)) = w8 at Z8 O8 B8 ⊢
              clear z0 z1 z2 z3 z4 z5 z6 z7 f0' f1 f2 f3 f4 f5 f6 f7 x0 x1 x2 x3 x4 x5 x6 x7 f0
              have z0 := Z8.out.cell 0
              have z1 := Z8.out.cell 1
              have z2 := Z8.out.cell 2
              have z3 := Z8.out.cell 3
              have z4 := Z8.out.cell 4
              have z5 := Z8.out.cell 5
              have z6 := Z8.out.cell 6
              have z7 := Z8.out.cell 7
              exact bodyPost_ret (v := .agg (worksV (1 + q1) (1 + q2) (1 + q3) P1 P2 A1 cc1 cc2 ca)) (by simp [results, Tryz.results6, go_sem, z0, z1, z2, z3, z4, z5, z6, z7]) rfl ⟨_, _, _, _, _, _, _, _, _, rfl, ⟨by omega, by omega⟩, ⟨by omega, by omega⟩, ⟨by omega, by omega⟩, O8.out, B8.out⟩
end Go.Proofs.YtaiokjhjakdhaaaGreatDoor
