/- ParseWeighs: the core of its proof. No walk. -/
import Derived.Test.YtbphdmnomakeoaaDoorJw27
import Derived.Test.YtbphdmnomakeoaaDoorJw25
namespace Go.Proofs.YtbphdmnomakeoaaDoor
open Go.RowKit
set_option linter.unusedVariables false

theorem parseWeighs_core (S1 S2 S3 : Sd) (nn : Int) (h1 : -9223372036854775808 ≤ nn) (h2 : nn ≤ 9223372036854775807) (w : World) (hS1 : S1.ok w) (hS2 : S2.ok w) (hS3 : S3.ok w) (hT : Tb w) :
    Calls Tryd.prog 5 #[.slice S1.A S1.xs.length S1.c, .slice S2.A S2.xs.length S2.c, .slice S3.A S3.xs.length S3.c, .int .i64 nn] w fun e w' => e = .returned (.bool true) ∧ Below w.heap.size w w' :=
  ParseWeighs_any S1 S2 S3 nn w hS1 hS2 hS3 h1 h2 hT
end Go.Proofs.YtbphdmnomakeoaaDoor
