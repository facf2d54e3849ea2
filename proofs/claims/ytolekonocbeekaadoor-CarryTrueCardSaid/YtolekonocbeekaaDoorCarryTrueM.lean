/- gantkeep4.CarryTrue, the walk. Printed by gen/lawr6b.py. -/
import Derived.Test.YtolekonocbeekaaDoorCarryT1M
import Derived.Test.YtolekonocbeekaaDoorCarryT2M
import Derived.Test.YtolekonocbeekaaDoorCarryT3M
import Derived.Test.YtolekonocbeekaaDoorCarryT4M
namespace Go.Proofs.YtolekonocbeekaaDoor
open Go.RowKit
set_option linter.unusedVariables false
set_option maxRecDepth 100000

theorem carryTrue_core (S1 S2 S3 S4 : Sd) (w : World) (hS1 : S1.ok w) (hS2 : S2.ok w) (hS3 : S3.ok w) (hS4 : S4.ok w) (hT : Tb w) :
    Calls Tryd.prog 9 #[.slice S1.A S1.xs.length S1.c, .slice S2.A S2.xs.length S2.c, .slice S3.A S3.xs.length S3.c, .slice S4.A S4.xs.length S4.c] w fun e w' => e = .returned (.bool true) ∧ Below w.heap.size w w' := by
  obtain ⟨a1, b1, a2, b2, a3, b3, P0, CP0⟩ := pose_ex S1 w hS1
  have CP := Lib.hid CP0
  clear CP0 hS1
  obtain ⟨fx, fy, ft, X, Y, T, zx0, zy0, zt0, CF0⟩ := within_ex S2 w hS2 a1 b1 a2 b2 a3 b3 P0 (by decide)
  have CF := Lib.hid CF0
  clear CF0 hS2
  obtain ⟨x, y, t, Zx0, Zy0, Zt0, CG0⟩ := frame_ex S3 w hS3
  have CG := Lib.hid CG0
  have Zx : Hid (Sz 1 x) := Zx0
  have Zy : Hid (Sz 1 y) := Zy0
  have Zt : Hid (Sz 1 t) := Zt0
  clear CG0 Zx0 Zy0 Zt0 hS3
  obtain ⟨x2, y2, t2, Zx20, Zy20, Zt20, CH0⟩ := frame_ex S4 w hS4
  have CH := Lib.hid CH0
  have Zx2 : Hid (Sz 1 x2) := Zx20
  have Zy2 : Hid (Sz 1 y2) := Zy20
  have Zt2 : Hid (Sz 1 t2) := Zt20
  clear CH0 Zx20 Zy20 Zt20 hS4
  cases G0 : tWide (-t) a3 b3 with
  | true =>
    by_cases D0 : tdQ (-t) ft = 0
    · exact carryTrue_wideH S1 S2 S3 S4 a1 b1 a2 b2 a3 b3 fx fy ft x y t x2 y2 t2 w P0 X Y T zx0 zy0 zt0 Zx Zy Zt Zx2 Zy2 Zt2 CP CF CG CH G0 D0 hT
    · exact carryTrue_wideN S1 S2 S3 S4 a1 b1 a2 b2 a3 b3 fx fy ft x y t x2 y2 t2 w P0 X Y T zx0 zy0 zt0 Zx Zy Zt Zx2 Zy2 Zt2 CP CF CG CH G0 D0 hT
  | false =>
    cases G20 : tWide t2 (tvQ (-t) a3) (tvQ (-t) b3) with
    | true => exact carryTrue_put2 S1 S2 S3 S4 a1 b1 a2 b2 a3 b3 fx fy ft x y t x2 y2 t2 w P0 X Y T zx0 zy0 zt0 Zx Zy Zt Zx2 Zy2 Zt2 CP CF CG CH G0 G20 hT
    | false => exact carryTrue_ok S1 S2 S3 S4 a1 b1 a2 b2 a3 b3 fx fy ft x y t x2 y2 t2 w P0 X Y T zx0 zy0 zt0 Zx Zy Zt Zx2 Zy2 Zt2 CP CF CG CH G0 G20 hT
end Go.Proofs.YtolekonocbeekaaDoor
