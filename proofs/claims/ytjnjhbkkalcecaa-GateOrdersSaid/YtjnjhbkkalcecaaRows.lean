/-
  No cell of these rows narrows 'for every input' (looked for: loops, veiled, ifaces, maps, wideKeys, modest, calm, conditions, laid).
  DERIVED. THE GIVEN ROWS OF THIS SEAT. 9 by the template 'for every input the law returns true; each argument reads behind the call as it read before'; 0 by the template 'total and deterministic' (their statements: YtjnjhbkkalcecaaTotals.lean).
  GIVEN WITH THE SEED: the statements are not yours to turn. If you find one false, say at which input.
  Laid BY PROGRAM, IN A SANDBOX (cutbox-rows.mjs): the forced cells as the released guide's own fill.sh prints them over the translation 087a9c36c1c3ae01… (all of the seat's roots in one cut). By AI agents, Wed Nov 11 2026. No macro, syntax, notation, axiom, sorry.
-/
import Derived.Test.YtjnjhbkkalcecaaChecked
import GoSem.Claim
import GoSem.ClaimJoined
import GoSem.ClaimMapViews
import Derived.JoinedTies
import Derived.KernelRfl
namespace Go.Proofs.Ytjnjhbkkalcecaa
/- THE CELL 'sum', in the pinned program and in every row, IS THE sha256 OF THE DUMP (.gsa) THAT YtjnjhbkkalcecaaProg.lean LOADS. Nothing in Lean hashes anything: it is a label: what it is worth is what the hold of that sum in a sandbox is worth. -/
noncomputable def Try.pinned : Pinned := { name := "ytjnjhbkkalcecaa", sum := "087a9c36c1c3ae014a6665bfca38e18cf6da996f607e18b5c8b28cad76a91b83", checked := Try.checked }
namespace Rows
def none {H : Type} : Left H := { results := [], args := [] }

/-- 'pestlelaw35.GateOrders': WHATEVER THE INPUT: true; the input reads as it did. -/
def gateOrdersSpec : ChangeSpec := { name := "gateOrders", fn := fun _ => fun
  | [d1, d2] => { results := [.lit (.bool true)], args := [d1, d2] }
  | _ => none }
def gateOrdersRow : OpenClaim := { program := "ytjnjhbkkalcecaa", sum := "087a9c36c1c3ae014a6665bfca38e18cf6da996f607e18b5c8b28cad76a91b83", func := "pestle/pestlelaw35.GateOrders", spec := "gateOrders", apart := false }
def GateOrdersSaid : Prop := gateOrdersRow.holds Try.pinned (OpenSpec.ofChange gateOrdersSpec)

/-- ITS FALSE NEIGHBOUR: 'it returns false'. Refute it at one input. -/
def gateOrdersWrong : ChangeSpec := { name := "gateOrders", fn := fun _ => fun
  | [d1, d2] => { results := [.lit (.bool false)], args := [d1, d2] }
  | _ => none }
def GateOrdersWrongFalsely : Prop := gateOrdersRow.holds Try.pinned (OpenSpec.ofChange gateOrdersWrong)

/-- 'pestlelaw61.PepperRings': WHATEVER THE INPUT: true; the input reads as it did. -/
def pepperRingsSpec : ChangeSpec := { name := "pepperRings", fn := fun _ => fun
  | [d1, d2, d3] => { results := [.lit (.bool true)], args := [d1, d2, d3] }
  | _ => none }
def pepperRingsRow : OpenClaim := { program := "ytjnjhbkkalcecaa", sum := "087a9c36c1c3ae014a6665bfca38e18cf6da996f607e18b5c8b28cad76a91b83", func := "pestle/pestlelaw61.PepperRings", spec := "pepperRings", unfollowed := true, recurses := true, apart := false }
def PepperRingsSaid : Prop := pepperRingsRow.holds Try.pinned (OpenSpec.ofChange pepperRingsSpec)

/-- ITS FALSE NEIGHBOUR: 'it returns false'. Refute it at one input. -/
def pepperRingsWrong : ChangeSpec := { name := "pepperRings", fn := fun _ => fun
  | [d1, d2, d3] => { results := [.lit (.bool false)], args := [d1, d2, d3] }
  | _ => none }
def PepperRingsWrongFalsely : Prop := pepperRingsRow.holds Try.pinned (OpenSpec.ofChange pepperRingsWrong)

/-- 'pestlelaw34.LaneEnds': WHATEVER THE INPUT: true; the input reads as it did. -/
def laneEndsSpec : ChangeSpec := { name := "laneEnds", fn := fun _ => fun
  | [d1, d2] => { results := [.lit (.bool true)], args := [d1, d2] }
  | _ => none }
def laneEndsRow : OpenClaim := { program := "ytjnjhbkkalcecaa", sum := "087a9c36c1c3ae014a6665bfca38e18cf6da996f607e18b5c8b28cad76a91b83", func := "pestle/pestlelaw34.LaneEnds", spec := "laneEnds", apart := false }
def LaneEndsSaid : Prop := laneEndsRow.holds Try.pinned (OpenSpec.ofChange laneEndsSpec)

/-- ITS FALSE NEIGHBOUR: 'it returns false'. Refute it at one input. -/
def laneEndsWrong : ChangeSpec := { name := "laneEnds", fn := fun _ => fun
  | [d1, d2] => { results := [.lit (.bool false)], args := [d1, d2] }
  | _ => none }
def LaneEndsWrongFalsely : Prop := laneEndsRow.holds Try.pinned (OpenSpec.ofChange laneEndsWrong)

/-- 'pestlelaw32.FillLooks': WHATEVER THE INPUT: true; the input reads as it did. -/
def fillLooksSpec : ChangeSpec := { name := "fillLooks", fn := fun _ => fun
  | [d1, d2, d3, d4, d5] => { results := [.lit (.bool true)], args := [d1, d2, d3, d4, d5] }
  | _ => none }
def fillLooksRow : OpenClaim := { program := "ytjnjhbkkalcecaa", sum := "087a9c36c1c3ae014a6665bfca38e18cf6da996f607e18b5c8b28cad76a91b83", func := "pestle/pestlelaw32.FillLooks", spec := "fillLooks", apart := false }
def FillLooksSaid : Prop := fillLooksRow.holds Try.pinned (OpenSpec.ofChange fillLooksSpec)

/-- ITS FALSE NEIGHBOUR: 'it returns false'. Refute it at one input. -/
def fillLooksWrong : ChangeSpec := { name := "fillLooks", fn := fun _ => fun
  | [d1, d2, d3, d4, d5] => { results := [.lit (.bool false)], args := [d1, d2, d3, d4, d5] }
  | _ => none }
def FillLooksWrongFalsely : Prop := fillLooksRow.holds Try.pinned (OpenSpec.ofChange fillLooksWrong)

/-- 'pestlelaw32.FillOrder': WHATEVER THE INPUT: true; the input reads as it did. -/
def fillOrderSpec : ChangeSpec := { name := "fillOrder", fn := fun _ => fun
  | [d1, d2, d3] => { results := [.lit (.bool true)], args := [d1, d2, d3] }
  | _ => none }
def fillOrderRow : OpenClaim := { program := "ytjnjhbkkalcecaa", sum := "087a9c36c1c3ae014a6665bfca38e18cf6da996f607e18b5c8b28cad76a91b83", func := "pestle/pestlelaw32.FillOrder", spec := "fillOrder", apart := false }
def FillOrderSaid : Prop := fillOrderRow.holds Try.pinned (OpenSpec.ofChange fillOrderSpec)

/-- ITS FALSE NEIGHBOUR: 'it returns false'. Refute it at one input. -/
def fillOrderWrong : ChangeSpec := { name := "fillOrder", fn := fun _ => fun
  | [d1, d2, d3] => { results := [.lit (.bool false)], args := [d1, d2, d3] }
  | _ => none }
def FillOrderWrongFalsely : Prop := fillOrderRow.holds Try.pinned (OpenSpec.ofChange fillOrderWrong)

/-- 'pestlelaw39.BoundSteps': WHATEVER THE INPUT: true; the input reads as it did. -/
def boundStepsSpec : ChangeSpec := { name := "boundSteps", fn := fun _ => fun
  | [d1, d2] => { results := [.lit (.bool true)], args := [d1, d2] }
  | _ => none }
def boundStepsRow : OpenClaim := { program := "ytjnjhbkkalcecaa", sum := "087a9c36c1c3ae014a6665bfca38e18cf6da996f607e18b5c8b28cad76a91b83", func := "pestle/pestlelaw39.BoundSteps", spec := "boundSteps", apart := false }
def BoundStepsSaid : Prop := boundStepsRow.holds Try.pinned (OpenSpec.ofChange boundStepsSpec)

/-- ITS FALSE NEIGHBOUR: 'it returns false'. Refute it at one input. -/
def boundStepsWrong : ChangeSpec := { name := "boundSteps", fn := fun _ => fun
  | [d1, d2] => { results := [.lit (.bool false)], args := [d1, d2] }
  | _ => none }
def BoundStepsWrongFalsely : Prop := boundStepsRow.holds Try.pinned (OpenSpec.ofChange boundStepsWrong)

/-- 'pestlelaw38.WatchSees': WHATEVER THE INPUT: true; the input reads as it did. -/
def watchSeesSpec : ChangeSpec := { name := "watchSees", fn := fun _ => fun
  | [d1, d2, d3] => { results := [.lit (.bool true)], args := [d1, d2, d3] }
  | _ => none }
def watchSeesRow : OpenClaim := { program := "ytjnjhbkkalcecaa", sum := "087a9c36c1c3ae014a6665bfca38e18cf6da996f607e18b5c8b28cad76a91b83", func := "pestle/pestlelaw38.WatchSees", spec := "watchSees", apart := false }
def WatchSeesSaid : Prop := watchSeesRow.holds Try.pinned (OpenSpec.ofChange watchSeesSpec)

/-- ITS FALSE NEIGHBOUR: 'it returns false'. Refute it at one input. -/
def watchSeesWrong : ChangeSpec := { name := "watchSees", fn := fun _ => fun
  | [d1, d2, d3] => { results := [.lit (.bool false)], args := [d1, d2, d3] }
  | _ => none }
def WatchSeesWrongFalsely : Prop := watchSeesRow.holds Try.pinned (OpenSpec.ofChange watchSeesWrong)

/-- 'pestlelaw52.AuditOne': WHATEVER THE INPUT: true; the input reads as it did. -/
def auditOneSpec : ChangeSpec := { name := "auditOne", fn := fun _ => fun
  | [d1, d2] => { results := [.lit (.bool true)], args := [d1, d2] }
  | _ => none }
def auditOneRow : OpenClaim := { program := "ytjnjhbkkalcecaa", sum := "087a9c36c1c3ae014a6665bfca38e18cf6da996f607e18b5c8b28cad76a91b83", func := "pestle/pestlelaw52.AuditOne", spec := "auditOne", apart := false }
def AuditOneSaid : Prop := auditOneRow.holds Try.pinned (OpenSpec.ofChange auditOneSpec)

/-- ITS FALSE NEIGHBOUR: 'it returns false'. Refute it at one input. -/
def auditOneWrong : ChangeSpec := { name := "auditOne", fn := fun _ => fun
  | [d1, d2] => { results := [.lit (.bool false)], args := [d1, d2] }
  | _ => none }
def AuditOneWrongFalsely : Prop := auditOneRow.holds Try.pinned (OpenSpec.ofChange auditOneWrong)

/-- 'pestlelaw33.ArgonHeads': WHATEVER THE INPUT: true; the input reads as it did. -/
def argonHeadsSpec : ChangeSpec := { name := "argonHeads", fn := fun _ => fun
  | [d1, d2] => { results := [.lit (.bool true)], args := [d1, d2] }
  | _ => none }
def argonHeadsRow : OpenClaim := { program := "ytjnjhbkkalcecaa", sum := "087a9c36c1c3ae014a6665bfca38e18cf6da996f607e18b5c8b28cad76a91b83", func := "pestle/pestlelaw33.ArgonHeads", spec := "argonHeads", unfollowed := true, recurses := true, apart := false }
def ArgonHeadsSaid : Prop := argonHeadsRow.holds Try.pinned (OpenSpec.ofChange argonHeadsSpec)

/-- ITS FALSE NEIGHBOUR: 'it returns false'. Refute it at one input. -/
def argonHeadsWrong : ChangeSpec := { name := "argonHeads", fn := fun _ => fun
  | [d1, d2] => { results := [.lit (.bool false)], args := [d1, d2] }
  | _ => none }
def ArgonHeadsWrongFalsely : Prop := argonHeadsRow.holds Try.pinned (OpenSpec.ofChange argonHeadsWrong)

/- THE SECOND FORM. 'bulk': how many values and letters a reading holds, each counted each time it is reached (what is shared counts as often as it is met; a slice's spare places count too). A statement '..UptoSaid' is the law's where the arguments, and the package variables that the reading takes, are together of bulk at most 1048576: NARROWER than '..Said'. Prove '..Said' where nothing that the law and all that it calls make is longer than what came in: it says more and counts as full. Else prove '..UptoSaid'. A law counts once. -/
mutual
def uptoBulk {H : Type} : DataW H → Nat
  | .lit (.string bytes) => bytes.length + 1
  | .lit _ => 1
  | .nil => 1
  | .ptr d => uptoBulk d + 1
  | .slice elems spare => uptoBulkAll elems + uptoBulkAll spare + 1
  | .agg parts => uptoBulkAll parts + 1
  | .iface _ d => uptoBulk d + 1
  | .map entries => uptoBulkEntries entries + 1
  | .held _ => 1
def uptoBulkAll {H : Type} : List (DataW H) → Nat
  | [] => 0
  | d :: r => uptoBulk d + uptoBulkAll r
def uptoBulkEntries {H : Type} : List (Lit × DataW H) → Nat
  | [] => 0
  | x :: r => uptoBulkEntry x + uptoBulkEntries r
def uptoBulkEntry {H : Type} : Lit × DataW H → Nat
  | (.string bytes, d) => bytes.length + uptoBulk d + 1
  | (_, d) => uptoBulk d + 1
 end
def uptoSmall : (H : Type) → List (DataW H) → Bool := fun _ ds => decide (uptoBulkAll ds ≤ 1048576)
def OpenSpec.upto (s : _root_.Go.ChangeSpec) : _root_.Go.OpenSpec := { _root_.Go.OpenSpec.ofChange s with cond := some uptoSmall }

/-- 'pestlelaw35.GateOrders', WHERE WHAT IT READS IS OF BULK AT MOST 1048576: true; the input reads as it did. -/
def gateOrdersUptoRow : OpenClaim := { program := "ytjnjhbkkalcecaa", sum := "087a9c36c1c3ae014a6665bfca38e18cf6da996f607e18b5c8b28cad76a91b83", func := "pestle/pestlelaw35.GateOrders", spec := "gateOrders", apart := false, narrowed := true }
def GateOrdersUptoSaid : Prop := gateOrdersUptoRow.holds Try.pinned (OpenSpec.upto gateOrdersSpec)

/-- 'pestlelaw61.PepperRings', WHERE WHAT IT READS IS OF BULK AT MOST 1048576: true; the input reads as it did. -/
def pepperRingsUptoRow : OpenClaim := { program := "ytjnjhbkkalcecaa", sum := "087a9c36c1c3ae014a6665bfca38e18cf6da996f607e18b5c8b28cad76a91b83", func := "pestle/pestlelaw61.PepperRings", spec := "pepperRings", unfollowed := true, recurses := true, apart := false, narrowed := true }
def PepperRingsUptoSaid : Prop := pepperRingsUptoRow.holds Try.pinned (OpenSpec.upto pepperRingsSpec)

/-- 'pestlelaw34.LaneEnds', WHERE WHAT IT READS IS OF BULK AT MOST 1048576: true; the input reads as it did. -/
def laneEndsUptoRow : OpenClaim := { program := "ytjnjhbkkalcecaa", sum := "087a9c36c1c3ae014a6665bfca38e18cf6da996f607e18b5c8b28cad76a91b83", func := "pestle/pestlelaw34.LaneEnds", spec := "laneEnds", apart := false, narrowed := true }
def LaneEndsUptoSaid : Prop := laneEndsUptoRow.holds Try.pinned (OpenSpec.upto laneEndsSpec)

/-- 'pestlelaw32.FillLooks', WHERE WHAT IT READS IS OF BULK AT MOST 1048576: true; the input reads as it did. -/
def fillLooksUptoRow : OpenClaim := { program := "ytjnjhbkkalcecaa", sum := "087a9c36c1c3ae014a6665bfca38e18cf6da996f607e18b5c8b28cad76a91b83", func := "pestle/pestlelaw32.FillLooks", spec := "fillLooks", apart := false, narrowed := true }
def FillLooksUptoSaid : Prop := fillLooksUptoRow.holds Try.pinned (OpenSpec.upto fillLooksSpec)

/-- 'pestlelaw32.FillOrder', WHERE WHAT IT READS IS OF BULK AT MOST 1048576: true; the input reads as it did. -/
def fillOrderUptoRow : OpenClaim := { program := "ytjnjhbkkalcecaa", sum := "087a9c36c1c3ae014a6665bfca38e18cf6da996f607e18b5c8b28cad76a91b83", func := "pestle/pestlelaw32.FillOrder", spec := "fillOrder", apart := false, narrowed := true }
def FillOrderUptoSaid : Prop := fillOrderUptoRow.holds Try.pinned (OpenSpec.upto fillOrderSpec)

/-- 'pestlelaw39.BoundSteps', WHERE WHAT IT READS IS OF BULK AT MOST 1048576: true; the input reads as it did. -/
def boundStepsUptoRow : OpenClaim := { program := "ytjnjhbkkalcecaa", sum := "087a9c36c1c3ae014a6665bfca38e18cf6da996f607e18b5c8b28cad76a91b83", func := "pestle/pestlelaw39.BoundSteps", spec := "boundSteps", apart := false, narrowed := true }
def BoundStepsUptoSaid : Prop := boundStepsUptoRow.holds Try.pinned (OpenSpec.upto boundStepsSpec)

/-- 'pestlelaw38.WatchSees', WHERE WHAT IT READS IS OF BULK AT MOST 1048576: true; the input reads as it did. -/
def watchSeesUptoRow : OpenClaim := { program := "ytjnjhbkkalcecaa", sum := "087a9c36c1c3ae014a6665bfca38e18cf6da996f607e18b5c8b28cad76a91b83", func := "pestle/pestlelaw38.WatchSees", spec := "watchSees", apart := false, narrowed := true }
def WatchSeesUptoSaid : Prop := watchSeesUptoRow.holds Try.pinned (OpenSpec.upto watchSeesSpec)

/-- 'pestlelaw52.AuditOne', WHERE WHAT IT READS IS OF BULK AT MOST 1048576: true; the input reads as it did. -/
def auditOneUptoRow : OpenClaim := { program := "ytjnjhbkkalcecaa", sum := "087a9c36c1c3ae014a6665bfca38e18cf6da996f607e18b5c8b28cad76a91b83", func := "pestle/pestlelaw52.AuditOne", spec := "auditOne", apart := false, narrowed := true }
def AuditOneUptoSaid : Prop := auditOneUptoRow.holds Try.pinned (OpenSpec.upto auditOneSpec)

/-- 'pestlelaw33.ArgonHeads', WHERE WHAT IT READS IS OF BULK AT MOST 1048576: true; the input reads as it did. -/
def argonHeadsUptoRow : OpenClaim := { program := "ytjnjhbkkalcecaa", sum := "087a9c36c1c3ae014a6665bfca38e18cf6da996f607e18b5c8b28cad76a91b83", func := "pestle/pestlelaw33.ArgonHeads", spec := "argonHeads", unfollowed := true, recurses := true, apart := false, narrowed := true }
def ArgonHeadsUptoSaid : Prop := argonHeadsUptoRow.holds Try.pinned (OpenSpec.upto argonHeadsSpec)

end Rows
end Go.Proofs.Ytjnjhbkkalcecaa
