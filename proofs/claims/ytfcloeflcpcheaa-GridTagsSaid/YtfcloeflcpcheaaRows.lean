/-
  No cell of these rows narrows 'for every input' (looked for: loops, veiled, ifaces, maps, wideKeys, modest, calm, conditions, laid).
  DERIVED. THE GIVEN ROWS OF THIS SEAT. 5 by the template 'for every input the law returns true; each argument reads behind the call as it read before'; 0 by the template 'total and deterministic' (their statements: YtfcloeflcpcheaaTotals.lean).
  GIVEN WITH THE SEED: the statements are not yours to turn. If you find one false, say at which input.
  Laid BY PROGRAM, IN A SANDBOX (cutbox-rows.mjs): the forced cells as the released guide's own fill.sh prints them over the translation baec88aac32ca004… (all of the seat's roots in one cut). By AI agents, Wed Nov 11 2026. No macro, syntax, notation, axiom, sorry.
-/
import Derived.Test.YtfcloeflcpcheaaChecked
import GoSem.Claim
import GoSem.ClaimJoined
import GoSem.ClaimMapViews
import Derived.JoinedTies
import Derived.KernelRfl
namespace Go.Proofs.Ytfcloeflcpcheaa
/- THE CELL 'sum', in the pinned program and in every row, IS THE sha256 OF THE DUMP (.gsa) THAT YtfcloeflcpcheaaProg.lean LOADS. Nothing in Lean hashes anything: it is a label: what it is worth is what the hold of that sum in a sandbox is worth. -/
noncomputable def Try.pinned : Pinned := { name := "ytfcloeflcpcheaa", sum := "baec88aac32ca00425bd66fb6f7ffa3c92e369a57e56e330c3fcd887ddcf2586", checked := Try.checked }
namespace Rows
def none {H : Type} : Left H := { results := [], args := [] }

/-- 'pestlelaw31.GridStores': WHATEVER THE INPUT: true; the input reads as it did. -/
def gridStoresSpec : ChangeSpec := { name := "gridStores", fn := fun _ => fun
  | [d1, d2] => { results := [.lit (.bool true)], args := [d1, d2] }
  | _ => none }
def gridStoresRow : OpenClaim := { program := "ytfcloeflcpcheaa", sum := "baec88aac32ca00425bd66fb6f7ffa3c92e369a57e56e330c3fcd887ddcf2586", func := "pestle/pestlelaw31.GridStores", spec := "gridStores", apart := false }
def GridStoresSaid : Prop := gridStoresRow.holds Try.pinned (OpenSpec.ofChange gridStoresSpec)

/-- ITS FALSE NEIGHBOUR: 'it returns false'. Refute it at one input. -/
def gridStoresWrong : ChangeSpec := { name := "gridStores", fn := fun _ => fun
  | [d1, d2] => { results := [.lit (.bool false)], args := [d1, d2] }
  | _ => none }
def GridStoresWrongFalsely : Prop := gridStoresRow.holds Try.pinned (OpenSpec.ofChange gridStoresWrong)

/-- 'pestlelaw31.GridTags': WHATEVER THE INPUT: true; the input reads as it did. -/
def gridTagsSpec : ChangeSpec := { name := "gridTags", fn := fun _ => fun
  | [d1, d2, d3] => { results := [.lit (.bool true)], args := [d1, d2, d3] }
  | _ => none }
def gridTagsRow : OpenClaim := { program := "ytfcloeflcpcheaa", sum := "baec88aac32ca00425bd66fb6f7ffa3c92e369a57e56e330c3fcd887ddcf2586", func := "pestle/pestlelaw31.GridTags", spec := "gridTags", apart := false }
def GridTagsSaid : Prop := gridTagsRow.holds Try.pinned (OpenSpec.ofChange gridTagsSpec)

/-- ITS FALSE NEIGHBOUR: 'it returns false'. Refute it at one input. -/
def gridTagsWrong : ChangeSpec := { name := "gridTags", fn := fun _ => fun
  | [d1, d2, d3] => { results := [.lit (.bool false)], args := [d1, d2, d3] }
  | _ => none }
def GridTagsWrongFalsely : Prop := gridTagsRow.holds Try.pinned (OpenSpec.ofChange gridTagsWrong)

/-- 'pestlelaw34.LaneEnds': WHATEVER THE INPUT: true; the input reads as it did. -/
def laneEndsSpec : ChangeSpec := { name := "laneEnds", fn := fun _ => fun
  | [d1, d2] => { results := [.lit (.bool true)], args := [d1, d2] }
  | _ => none }
def laneEndsRow : OpenClaim := { program := "ytfcloeflcpcheaa", sum := "baec88aac32ca00425bd66fb6f7ffa3c92e369a57e56e330c3fcd887ddcf2586", func := "pestle/pestlelaw34.LaneEnds", spec := "laneEnds", apart := false }
def LaneEndsSaid : Prop := laneEndsRow.holds Try.pinned (OpenSpec.ofChange laneEndsSpec)

/-- ITS FALSE NEIGHBOUR: 'it returns false'. Refute it at one input. -/
def laneEndsWrong : ChangeSpec := { name := "laneEnds", fn := fun _ => fun
  | [d1, d2] => { results := [.lit (.bool false)], args := [d1, d2] }
  | _ => none }
def LaneEndsWrongFalsely : Prop := laneEndsRow.holds Try.pinned (OpenSpec.ofChange laneEndsWrong)

/-- 'pestlelaw32.FillLooks': WHATEVER THE INPUT: true; the input reads as it did. -/
def fillLooksSpec : ChangeSpec := { name := "fillLooks", fn := fun _ => fun
  | [d1, d2, d3, d4, d5] => { results := [.lit (.bool true)], args := [d1, d2, d3, d4, d5] }
  | _ => none }
def fillLooksRow : OpenClaim := { program := "ytfcloeflcpcheaa", sum := "baec88aac32ca00425bd66fb6f7ffa3c92e369a57e56e330c3fcd887ddcf2586", func := "pestle/pestlelaw32.FillLooks", spec := "fillLooks", apart := false }
def FillLooksSaid : Prop := fillLooksRow.holds Try.pinned (OpenSpec.ofChange fillLooksSpec)

/-- ITS FALSE NEIGHBOUR: 'it returns false'. Refute it at one input. -/
def fillLooksWrong : ChangeSpec := { name := "fillLooks", fn := fun _ => fun
  | [d1, d2, d3, d4, d5] => { results := [.lit (.bool false)], args := [d1, d2, d3, d4, d5] }
  | _ => none }
def FillLooksWrongFalsely : Prop := fillLooksRow.holds Try.pinned (OpenSpec.ofChange fillLooksWrong)

/-- 'pestlelaw32.FillOrder': WHATEVER THE INPUT: true; the input reads as it did. -/
def fillOrderSpec : ChangeSpec := { name := "fillOrder", fn := fun _ => fun
  | [d1, d2, d3] => { results := [.lit (.bool true)], args := [d1, d2, d3] }
  | _ => none }
def fillOrderRow : OpenClaim := { program := "ytfcloeflcpcheaa", sum := "baec88aac32ca00425bd66fb6f7ffa3c92e369a57e56e330c3fcd887ddcf2586", func := "pestle/pestlelaw32.FillOrder", spec := "fillOrder", apart := false }
def FillOrderSaid : Prop := fillOrderRow.holds Try.pinned (OpenSpec.ofChange fillOrderSpec)

/-- ITS FALSE NEIGHBOUR: 'it returns false'. Refute it at one input. -/
def fillOrderWrong : ChangeSpec := { name := "fillOrder", fn := fun _ => fun
  | [d1, d2, d3] => { results := [.lit (.bool false)], args := [d1, d2, d3] }
  | _ => none }
def FillOrderWrongFalsely : Prop := fillOrderRow.holds Try.pinned (OpenSpec.ofChange fillOrderWrong)

/- THE SECOND FORM. 'bulk': how many values and letters a reading holds, each counted each time it is reached (what is shared counts as often as it is met; a slice's spare places count too). A statement '..UptoSaid' is the law's where the arguments, and the package variables that the reading takes, are together of bulk at most 1048576: NARROWER than '..Said'. Prove '..Said' where nothing that the law and all that it calls make is longer than what came in: it says more and counts as full. Else prove '..UptoSaid'. A law counts once. -/
mutual
def uptoBulk {H : Type} : DataW H → Nat
  | .lit (.string bytes) => bytes.length + 1
  | .lit _ => 1
  | .nil => 1
  | .ptr d => uptoBulk d + 1
  | .slice elems spare => uptoBulkAll elems + uptoBulkAll spare + 1
  | .agg parts => uptoBulkAll parts + 1
  | .iface _ d => uptoBulk d + 1
  | .map entries => uptoBulkEntries entries + 1
  | .held _ => 1
def uptoBulkAll {H : Type} : List (DataW H) → Nat
  | [] => 0
  | d :: r => uptoBulk d + uptoBulkAll r
def uptoBulkEntries {H : Type} : List (Lit × DataW H) → Nat
  | [] => 0
  | x :: r => uptoBulkEntry x + uptoBulkEntries r
def uptoBulkEntry {H : Type} : Lit × DataW H → Nat
  | (.string bytes, d) => bytes.length + uptoBulk d + 1
  | (_, d) => uptoBulk d + 1
 end
def uptoSmall : (H : Type) → List (DataW H) → Bool := fun _ ds => decide (uptoBulkAll ds ≤ 1048576)
def OpenSpec.upto (s : _root_.Go.ChangeSpec) : _root_.Go.OpenSpec := { _root_.Go.OpenSpec.ofChange s with cond := some uptoSmall }

/-- 'pestlelaw31.GridStores', WHERE WHAT IT READS IS OF BULK AT MOST 1048576: true; the input reads as it did. -/
def gridStoresUptoRow : OpenClaim := { program := "ytfcloeflcpcheaa", sum := "baec88aac32ca00425bd66fb6f7ffa3c92e369a57e56e330c3fcd887ddcf2586", func := "pestle/pestlelaw31.GridStores", spec := "gridStores", apart := false, narrowed := true }
def GridStoresUptoSaid : Prop := gridStoresUptoRow.holds Try.pinned (OpenSpec.upto gridStoresSpec)

/-- 'pestlelaw31.GridTags', WHERE WHAT IT READS IS OF BULK AT MOST 1048576: true; the input reads as it did. -/
def gridTagsUptoRow : OpenClaim := { program := "ytfcloeflcpcheaa", sum := "baec88aac32ca00425bd66fb6f7ffa3c92e369a57e56e330c3fcd887ddcf2586", func := "pestle/pestlelaw31.GridTags", spec := "gridTags", apart := false, narrowed := true }
def GridTagsUptoSaid : Prop := gridTagsUptoRow.holds Try.pinned (OpenSpec.upto gridTagsSpec)

/-- 'pestlelaw34.LaneEnds', WHERE WHAT IT READS IS OF BULK AT MOST 1048576: true; the input reads as it did. -/
def laneEndsUptoRow : OpenClaim := { program := "ytfcloeflcpcheaa", sum := "baec88aac32ca00425bd66fb6f7ffa3c92e369a57e56e330c3fcd887ddcf2586", func := "pestle/pestlelaw34.LaneEnds", spec := "laneEnds", apart := false, narrowed := true }
def LaneEndsUptoSaid : Prop := laneEndsUptoRow.holds Try.pinned (OpenSpec.upto laneEndsSpec)

/-- 'pestlelaw32.FillLooks', WHERE WHAT IT READS IS OF BULK AT MOST 1048576: true; the input reads as it did. -/
def fillLooksUptoRow : OpenClaim := { program := "ytfcloeflcpcheaa", sum := "baec88aac32ca00425bd66fb6f7ffa3c92e369a57e56e330c3fcd887ddcf2586", func := "pestle/pestlelaw32.FillLooks", spec := "fillLooks", apart := false, narrowed := true }
def FillLooksUptoSaid : Prop := fillLooksUptoRow.holds Try.pinned (OpenSpec.upto fillLooksSpec)

/-- 'pestlelaw32.FillOrder', WHERE WHAT IT READS IS OF BULK AT MOST 1048576: true; the input reads as it did. -/
def fillOrderUptoRow : OpenClaim := { program := "ytfcloeflcpcheaa", sum := "baec88aac32ca00425bd66fb6f7ffa3c92e369a57e56e330c3fcd887ddcf2586", func := "pestle/pestlelaw32.FillOrder", spec := "fillOrder", apart := false, narrowed := true }
def FillOrderUptoSaid : Prop := fillOrderUptoRow.holds Try.pinned (OpenSpec.upto fillOrderSpec)

end Rows
end Go.Proofs.Ytfcloeflcpcheaa
