/- ParseSpaces: the core of its proof. No walk. -/
import Derived.Test.YtaiokjhjakdhaaaGreatDoorPb26
namespace Go.Proofs.YtaiokjhjakdhaaaGreatDoor
open Go.RowKit

theorem parseSpaces_core (s : ByteArray) (hs : s.size ≤ maxLen) (w : World) (hT : Tb w ∧ Vr w) :
    Calls Tryz.prog 4 #[.string s] w fun e w' => e = .returned (.bool true) ∧ Below w.heap.size w w' :=
  ParseSpaces_any s w hs hT.1 hT.2
end Go.Proofs.YtaiokjhjakdhaaaGreatDoor
