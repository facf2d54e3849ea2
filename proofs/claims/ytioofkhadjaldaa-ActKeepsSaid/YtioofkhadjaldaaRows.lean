/-
  No cell of these rows narrows 'for every input' (looked for: loops, veiled, ifaces, maps, wideKeys, modest, calm, conditions, laid).
  DERIVED. THE GIVEN ROWS OF THIS SEAT. 4 by the template 'for every input the law returns true; each argument reads behind the call as it read before'; 0 by the template 'total and deterministic' (their statements: YtioofkhadjaldaaTotals.lean).
  GIVEN WITH THE SEED: the statements are not yours to turn. If you find one false, say at which input.
  Laid BY PROGRAM, IN A SANDBOX (cutbox-rows.mjs): the forced cells as the released guide's own fill.sh prints them over the translation 8a6233206a7a313e… (all of the seat's roots in one cut). By AI agents, Wed Nov 11 2026. No macro, syntax, notation, axiom, sorry.
-/
import Derived.Test.YtioofkhadjaldaaChecked
import GoSem.Claim
import GoSem.ClaimJoined
import GoSem.ClaimMapViews
import Derived.JoinedTies
import Derived.KernelRfl
namespace Go.Proofs.Ytioofkhadjaldaa
/- THE CELL 'sum', in the pinned program and in every row, IS THE sha256 OF THE DUMP (.gsa) THAT YtioofkhadjaldaaProg.lean LOADS. Nothing in Lean hashes anything: it is a label: what it is worth is what the hold of that sum in a sandbox is worth. -/
noncomputable def Try.pinned : Pinned := { name := "ytioofkhadjaldaa", sum := "8a6233206a7a313ef7354da38704b0893071c07fecd16e36b2d1af36f85ce7e9", checked := Try.checked }
namespace Rows
def none {H : Type} : Left H := { results := [], args := [] }

/-- 'gantkeep4.ActRound': WHATEVER THE INPUT: true; the input reads as it did. -/
def actRoundSpec : ChangeSpec := { name := "actRound", fn := fun _ => fun
  | [d1, d2] => { results := [.lit (.bool true)], args := [d1, d2] }
  | _ => none }
def actRoundRow : OpenClaim := { program := "ytioofkhadjaldaa", sum := "8a6233206a7a313ef7354da38704b0893071c07fecd16e36b2d1af36f85ce7e9", func := "gantry/gantkeep4.ActRound", spec := "actRound", inPlace := ["slices.overlaps[gantry/api.Step]"], apart := false }
def ActRoundSaid : Prop := actRoundRow.holds Try.pinned (OpenSpec.ofChange actRoundSpec)

/-- ITS FALSE NEIGHBOUR: 'it returns false'. Refute it at one input. -/
def actRoundWrong : ChangeSpec := { name := "actRound", fn := fun _ => fun
  | [d1, d2] => { results := [.lit (.bool false)], args := [d1, d2] }
  | _ => none }
def ActRoundWrongFalsely : Prop := actRoundRow.holds Try.pinned (OpenSpec.ofChange actRoundWrong)

/-- 'gantkeep4.ActAll': WHATEVER THE INPUT: true; the input reads as it did. -/
def actAllSpec : ChangeSpec := { name := "actAll", fn := fun _ => fun
  | [d1, d2, d3, d4, d5, d6] => { results := [.lit (.bool true)], args := [d1, d2, d3, d4, d5, d6] }
  | _ => none }
def actAllRow : OpenClaim := { program := "ytioofkhadjaldaa", sum := "8a6233206a7a313ef7354da38704b0893071c07fecd16e36b2d1af36f85ce7e9", func := "gantry/gantkeep4.ActAll", spec := "actAll", unfollowed := true, recurses := true, apart := false }
def ActAllSaid : Prop := actAllRow.holds Try.pinned (OpenSpec.ofChange actAllSpec)

/-- ITS FALSE NEIGHBOUR: 'it returns false'. Refute it at one input. -/
def actAllWrong : ChangeSpec := { name := "actAll", fn := fun _ => fun
  | [d1, d2, d3, d4, d5, d6] => { results := [.lit (.bool false)], args := [d1, d2, d3, d4, d5, d6] }
  | _ => none }
def ActAllWrongFalsely : Prop := actAllRow.holds Try.pinned (OpenSpec.ofChange actAllWrong)

/-- 'gantkeep4.ActKeeps': WHATEVER THE INPUT: true; the input reads as it did. -/
def actKeepsSpec : ChangeSpec := { name := "actKeeps", fn := fun _ => fun
  | [d1, d2] => { results := [.lit (.bool true)], args := [d1, d2] }
  | _ => none }
def actKeepsRow : OpenClaim := { program := "ytioofkhadjaldaa", sum := "8a6233206a7a313ef7354da38704b0893071c07fecd16e36b2d1af36f85ce7e9", func := "gantry/gantkeep4.ActKeeps", spec := "actKeeps", unfollowed := true, recurses := true, apart := false }
def ActKeepsSaid : Prop := actKeepsRow.holds Try.pinned (OpenSpec.ofChange actKeepsSpec)

/-- ITS FALSE NEIGHBOUR: 'it returns false'. Refute it at one input. -/
def actKeepsWrong : ChangeSpec := { name := "actKeeps", fn := fun _ => fun
  | [d1, d2] => { results := [.lit (.bool false)], args := [d1, d2] }
  | _ => none }
def ActKeepsWrongFalsely : Prop := actKeepsRow.holds Try.pinned (OpenSpec.ofChange actKeepsWrong)

/-- 'gantkeep4.ActFacts': WHATEVER THE INPUT: true; the input reads as it did. -/
def actFactsSpec : ChangeSpec := { name := "actFacts", fn := fun _ => fun
  | [d1, d2, d3] => { results := [.lit (.bool true)], args := [d1, d2, d3] }
  | _ => none }
def actFactsRow : OpenClaim := { program := "ytioofkhadjaldaa", sum := "8a6233206a7a313ef7354da38704b0893071c07fecd16e36b2d1af36f85ce7e9", func := "gantry/gantkeep4.ActFacts", spec := "actFacts", unfollowed := true, recurses := true, apart := false }
def ActFactsSaid : Prop := actFactsRow.holds Try.pinned (OpenSpec.ofChange actFactsSpec)

/-- ITS FALSE NEIGHBOUR: 'it returns false'. Refute it at one input. -/
def actFactsWrong : ChangeSpec := { name := "actFacts", fn := fun _ => fun
  | [d1, d2, d3] => { results := [.lit (.bool false)], args := [d1, d2, d3] }
  | _ => none }
def ActFactsWrongFalsely : Prop := actFactsRow.holds Try.pinned (OpenSpec.ofChange actFactsWrong)

/- THE SECOND FORM. 'bulk': how many values and letters a reading holds, each counted each time it is reached (what is shared counts as often as it is met; a slice's spare places count too). A statement '..UptoSaid' is the law's where the arguments, and the package variables that the reading takes, are together of bulk at most 1048576: NARROWER than '..Said'. Prove '..Said' where nothing that the law and all that it calls make is longer than what came in: it says more and counts as full. Else prove '..UptoSaid'. A law counts once. -/
mutual
def uptoBulk {H : Type} : DataW H → Nat
  | .lit (.string bytes) => bytes.length + 1
  | .lit _ => 1
  | .nil => 1
  | .ptr d => uptoBulk d + 1
  | .slice elems spare => uptoBulkAll elems + uptoBulkAll spare + 1
  | .agg parts => uptoBulkAll parts + 1
  | .iface _ d => uptoBulk d + 1
  | .map entries => uptoBulkEntries entries + 1
  | .held _ => 1
def uptoBulkAll {H : Type} : List (DataW H) → Nat
  | [] => 0
  | d :: r => uptoBulk d + uptoBulkAll r
def uptoBulkEntries {H : Type} : List (Lit × DataW H) → Nat
  | [] => 0
  | x :: r => uptoBulkEntry x + uptoBulkEntries r
def uptoBulkEntry {H : Type} : Lit × DataW H → Nat
  | (.string bytes, d) => bytes.length + uptoBulk d + 1
  | (_, d) => uptoBulk d + 1
 end
def uptoSmall : (H : Type) → List (DataW H) → Bool := fun _ ds => decide (uptoBulkAll ds ≤ 1048576)
def OpenSpec.upto (s : _root_.Go.ChangeSpec) : _root_.Go.OpenSpec := { _root_.Go.OpenSpec.ofChange s with cond := some uptoSmall }

/-- 'gantkeep4.ActRound', WHERE WHAT IT READS IS OF BULK AT MOST 1048576: true; the input reads as it did. -/
def actRoundUptoRow : OpenClaim := { program := "ytioofkhadjaldaa", sum := "8a6233206a7a313ef7354da38704b0893071c07fecd16e36b2d1af36f85ce7e9", func := "gantry/gantkeep4.ActRound", spec := "actRound", inPlace := ["slices.overlaps[gantry/api.Step]"], apart := false, narrowed := true }
def ActRoundUptoSaid : Prop := actRoundUptoRow.holds Try.pinned (OpenSpec.upto actRoundSpec)

/-- 'gantkeep4.ActAll', WHERE WHAT IT READS IS OF BULK AT MOST 1048576: true; the input reads as it did. -/
def actAllUptoRow : OpenClaim := { program := "ytioofkhadjaldaa", sum := "8a6233206a7a313ef7354da38704b0893071c07fecd16e36b2d1af36f85ce7e9", func := "gantry/gantkeep4.ActAll", spec := "actAll", unfollowed := true, recurses := true, apart := false, narrowed := true }
def ActAllUptoSaid : Prop := actAllUptoRow.holds Try.pinned (OpenSpec.upto actAllSpec)

/-- 'gantkeep4.ActKeeps', WHERE WHAT IT READS IS OF BULK AT MOST 1048576: true; the input reads as it did. -/
def actKeepsUptoRow : OpenClaim := { program := "ytioofkhadjaldaa", sum := "8a6233206a7a313ef7354da38704b0893071c07fecd16e36b2d1af36f85ce7e9", func := "gantry/gantkeep4.ActKeeps", spec := "actKeeps", unfollowed := true, recurses := true, apart := false, narrowed := true }
def ActKeepsUptoSaid : Prop := actKeepsUptoRow.holds Try.pinned (OpenSpec.upto actKeepsSpec)

/-- 'gantkeep4.ActFacts', WHERE WHAT IT READS IS OF BULK AT MOST 1048576: true; the input reads as it did. -/
def actFactsUptoRow : OpenClaim := { program := "ytioofkhadjaldaa", sum := "8a6233206a7a313ef7354da38704b0893071c07fecd16e36b2d1af36f85ce7e9", func := "gantry/gantkeep4.ActFacts", spec := "actFacts", unfollowed := true, recurses := true, apart := false, narrowed := true }
def ActFactsUptoSaid : Prop := actFactsUptoRow.holds Try.pinned (OpenSpec.upto actFactsSpec)

end Rows
end Go.Proofs.Ytioofkhadjaldaa
