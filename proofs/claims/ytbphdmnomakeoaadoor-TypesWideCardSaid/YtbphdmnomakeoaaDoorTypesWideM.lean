/- TypesWide: the core of its proof. No walk. -/
import Derived.Test.YtbphdmnomakeoaaDoorJo22
namespace Go.Proofs.YtbphdmnomakeoaaDoor
open Go.RowKit
set_option linter.unusedVariables false

theorem typesWide_core (S : Sd) (nn : Int) (h1 : -9223372036854775808 ≤ nn) (h2 : nn ≤ 9223372036854775807) (w : World) (hS : S.ok w) (hT : Tb w) :
    Calls Tryd.prog 3 #[.slice S.A S.xs.length S.c, .int .i64 nn] w fun e w' => e = .returned (.bool true) ∧ Below w.heap.size w w' :=
  TypesWide_any S.A S.xs.length S.c S.xs nn w ⟨rfl, hS.le, hS.mx, hS.at_, hS.rg⟩ h1 h2 hT
end Go.Proofs.YtbphdmnomakeoaaDoor
