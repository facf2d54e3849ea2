/- TypesFit: the core of its proof. No walk. -/
import Derived.Test.YtbphdmnomakeoaaDoorJo24
namespace Go.Proofs.YtbphdmnomakeoaaDoor
open Go.RowKit
set_option linter.unusedVariables false

theorem typesFit_core (S1 S2 : Sd) (w : World) (h1 : S1.ok w) (h2 : S2.ok w) (hT : Tb w) :
    Calls Tryd.prog 4 #[.slice S1.A S1.xs.length S1.c, .slice S2.A S2.xs.length S2.c] w fun e w' => e = .returned (.bool true) ∧ Below w.heap.size w w' :=
  TypesFit_any S1 S2 w h1 h2 hT
end Go.Proofs.YtbphdmnomakeoaaDoor
