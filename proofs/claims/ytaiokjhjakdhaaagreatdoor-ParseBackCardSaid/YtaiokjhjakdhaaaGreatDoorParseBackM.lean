/- ParseBack: the core of its proof. No walk. -/
import Derived.Test.YtaiokjhjakdhaaaGreatDoorPb26
namespace Go.Proofs.YtaiokjhjakdhaaaGreatDoor
open Go.RowKit

theorem parseBack_core (A : Option Addr) (n c : Nat) (xs : List Int) (S : Sd) (w : World) (h1 : IntArg w A n c xs) (h2 : S.ok w) (hT : Tb w ∧ Vr w) :
    Calls Tryz.prog 3 #[.slice A n c, .slice S.A S.xs.length S.c] w fun e w' => e = .returned (.bool true) ∧ Below w.heap.size w w' :=
  ParseBack_any A S.A n c S.xs.length S.c xs S w h1 (Lib.hid h2) rfl hT.1 hT.2
end Go.Proofs.YtaiokjhjakdhaaaGreatDoor
