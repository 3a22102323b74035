/-
  No cell of these rows narrows 'for every input' (looked for: loops, veiled, ifaces, maps, wideKeys, modest, calm, conditions, laid).
  DERIVED. THE GIVEN ROWS OF THIS SEAT. 16 by the template 'for every input the law returns true; each argument reads behind the call as it read before'; 0 by the template 'total and deterministic' (their statements: YtjehpceomlnicaaTotals.lean).
  GIVEN WITH THE SEED: the statements are not yours to turn. If you find one false, say at which input.
  Laid BY PROGRAM, IN A SANDBOX (cutbox-rows.mjs): the forced cells as the released guide's own fill.sh prints them over the translation 6403addac1dcf378… (all of the seat's roots in one cut). By AI agents, Wed Nov 11 2026. No macro, syntax, notation, axiom, sorry.
-/
import Derived.Test.YtjehpceomlnicaaChecked
import GoSem.Claim
import GoSem.ClaimJoined
import GoSem.ClaimMapViews
import Derived.JoinedTies
import Derived.KernelRfl
namespace Go.Proofs.Ytjehpceomlnicaa
/- THE CELL 'sum', in the pinned program and in every row, IS THE sha256 OF THE DUMP (.gsa) THAT YtjehpceomlnicaaProg.lean LOADS. Nothing in Lean hashes anything: it is a label: what it is worth is what the hold of that sum in a sandbox is worth. -/
noncomputable def Try.pinned : Pinned := { name := "ytjehpceomlnicaa", sum := "6403addac1dcf3783dfcc65949aea5091d46efb287b19fc342612f53fe008e61", checked := Try.checked }
namespace Rows
def none {H : Type} : Left H := { results := [], args := [] }

/-- 'pestlelaw59.ProbeWrong': WHATEVER THE INPUT: true; the input reads as it did. -/
def probeWrongSpec : ChangeSpec := { name := "probeWrong", fn := fun _ => fun
  | [d] => { results := [.lit (.bool true)], args := [d] }
  | _ => none }
def probeWrongRow : OpenClaim := { program := "ytjehpceomlnicaa", sum := "6403addac1dcf3783dfcc65949aea5091d46efb287b19fc342612f53fe008e61", func := "pestle/pestlelaw59.ProbeWrong", spec := "probeWrong", apart := false }
def ProbeWrongSaid : Prop := probeWrongRow.holds Try.pinned (OpenSpec.ofChange probeWrongSpec)

/-- ITS FALSE NEIGHBOUR: 'it returns false'. Refute it at one input. -/
def probeWrongWrong : ChangeSpec := { name := "probeWrong", fn := fun _ => fun
  | [d] => { results := [.lit (.bool false)], args := [d] }
  | _ => none }
def ProbeWrongWrongFalsely : Prop := probeWrongRow.holds Try.pinned (OpenSpec.ofChange probeWrongWrong)

/-- 'pestlelaw29.PlacePicks': WHATEVER THE INPUT: true; the input reads as it did. -/
def placePicksSpec : ChangeSpec := { name := "placePicks", fn := fun _ => fun
  | [d1, d2, d3] => { results := [.lit (.bool true)], args := [d1, d2, d3] }
  | _ => none }
def placePicksRow : OpenClaim := { program := "ytjehpceomlnicaa", sum := "6403addac1dcf3783dfcc65949aea5091d46efb287b19fc342612f53fe008e61", func := "pestle/pestlelaw29.PlacePicks", spec := "placePicks", apart := false }
def PlacePicksSaid : Prop := placePicksRow.holds Try.pinned (OpenSpec.ofChange placePicksSpec)

/-- ITS FALSE NEIGHBOUR: 'it returns false'. Refute it at one input. -/
def placePicksWrong : ChangeSpec := { name := "placePicks", fn := fun _ => fun
  | [d1, d2, d3] => { results := [.lit (.bool false)], args := [d1, d2, d3] }
  | _ => none }
def PlacePicksWrongFalsely : Prop := placePicksRow.holds Try.pinned (OpenSpec.ofChange placePicksWrong)

/-- 'pestlelaw27.ShapePlaces': WHATEVER THE INPUT: true; the input reads as it did. -/
def shapePlacesSpec : ChangeSpec := { name := "shapePlaces", fn := fun _ => fun
  | [d1, d2, d3] => { results := [.lit (.bool true)], args := [d1, d2, d3] }
  | _ => none }
def shapePlacesRow : OpenClaim := { program := "ytjehpceomlnicaa", sum := "6403addac1dcf3783dfcc65949aea5091d46efb287b19fc342612f53fe008e61", func := "pestle/pestlelaw27.ShapePlaces", spec := "shapePlaces", apart := false }
def ShapePlacesSaid : Prop := shapePlacesRow.holds Try.pinned (OpenSpec.ofChange shapePlacesSpec)

/-- ITS FALSE NEIGHBOUR: 'it returns false'. Refute it at one input. -/
def shapePlacesWrong : ChangeSpec := { name := "shapePlaces", fn := fun _ => fun
  | [d1, d2, d3] => { results := [.lit (.bool false)], args := [d1, d2, d3] }
  | _ => none }
def ShapePlacesWrongFalsely : Prop := shapePlacesRow.holds Try.pinned (OpenSpec.ofChange shapePlacesWrong)

/-- 'pestlelaw35.GatePlays': WHATEVER THE INPUT: true; the input reads as it did. -/
def gatePlaysSpec : ChangeSpec := { name := "gatePlays", fn := fun _ => fun
  | [d1, d2, d3] => { results := [.lit (.bool true)], args := [d1, d2, d3] }
  | _ => none }
def gatePlaysRow : OpenClaim := { program := "ytjehpceomlnicaa", sum := "6403addac1dcf3783dfcc65949aea5091d46efb287b19fc342612f53fe008e61", func := "pestle/pestlelaw35.GatePlays", spec := "gatePlays", apart := false }
def GatePlaysSaid : Prop := gatePlaysRow.holds Try.pinned (OpenSpec.ofChange gatePlaysSpec)

/-- ITS FALSE NEIGHBOUR: 'it returns false'. Refute it at one input. -/
def gatePlaysWrong : ChangeSpec := { name := "gatePlays", fn := fun _ => fun
  | [d1, d2, d3] => { results := [.lit (.bool false)], args := [d1, d2, d3] }
  | _ => none }
def GatePlaysWrongFalsely : Prop := gatePlaysRow.holds Try.pinned (OpenSpec.ofChange gatePlaysWrong)

/-- 'pestlelaw35.GateOrders': WHATEVER THE INPUT: true; the input reads as it did. -/
def gateOrdersSpec : ChangeSpec := { name := "gateOrders", fn := fun _ => fun
  | [d1, d2] => { results := [.lit (.bool true)], args := [d1, d2] }
  | _ => none }
def gateOrdersRow : OpenClaim := { program := "ytjehpceomlnicaa", sum := "6403addac1dcf3783dfcc65949aea5091d46efb287b19fc342612f53fe008e61", func := "pestle/pestlelaw35.GateOrders", spec := "gateOrders", apart := false }
def GateOrdersSaid : Prop := gateOrdersRow.holds Try.pinned (OpenSpec.ofChange gateOrdersSpec)

/-- ITS FALSE NEIGHBOUR: 'it returns false'. Refute it at one input. -/
def gateOrdersWrong : ChangeSpec := { name := "gateOrders", fn := fun _ => fun
  | [d1, d2] => { results := [.lit (.bool false)], args := [d1, d2] }
  | _ => none }
def GateOrdersWrongFalsely : Prop := gateOrdersRow.holds Try.pinned (OpenSpec.ofChange gateOrdersWrong)

/-- 'pestlelaw28.BlendPermutes': WHATEVER THE INPUT: true; the input reads as it did. -/
def blendPermutesSpec : ChangeSpec := { name := "blendPermutes", fn := fun _ => fun
  | [d] => { results := [.lit (.bool true)], args := [d] }
  | _ => none }
def blendPermutesRow : OpenClaim := { program := "ytjehpceomlnicaa", sum := "6403addac1dcf3783dfcc65949aea5091d46efb287b19fc342612f53fe008e61", func := "pestle/pestlelaw28.BlendPermutes", spec := "blendPermutes", apart := false }
def BlendPermutesSaid : Prop := blendPermutesRow.holds Try.pinned (OpenSpec.ofChange blendPermutesSpec)

/-- ITS FALSE NEIGHBOUR: 'it returns false'. Refute it at one input. -/
def blendPermutesWrong : ChangeSpec := { name := "blendPermutes", fn := fun _ => fun
  | [d] => { results := [.lit (.bool false)], args := [d] }
  | _ => none }
def BlendPermutesWrongFalsely : Prop := blendPermutesRow.holds Try.pinned (OpenSpec.ofChange blendPermutesWrong)

/-- 'pestlelaw28.BlendMixes': WHATEVER THE INPUT: true; the input reads as it did. -/
def blendMixesSpec : ChangeSpec := { name := "blendMixes", fn := fun _ => fun
  | [d1, d2, d3] => { results := [.lit (.bool true)], args := [d1, d2, d3] }
  | _ => none }
def blendMixesRow : OpenClaim := { program := "ytjehpceomlnicaa", sum := "6403addac1dcf3783dfcc65949aea5091d46efb287b19fc342612f53fe008e61", func := "pestle/pestlelaw28.BlendMixes", spec := "blendMixes", apart := false }
def BlendMixesSaid : Prop := blendMixesRow.holds Try.pinned (OpenSpec.ofChange blendMixesSpec)

/-- ITS FALSE NEIGHBOUR: 'it returns false'. Refute it at one input. -/
def blendMixesWrong : ChangeSpec := { name := "blendMixes", fn := fun _ => fun
  | [d1, d2, d3] => { results := [.lit (.bool false)], args := [d1, d2, d3] }
  | _ => none }
def BlendMixesWrongFalsely : Prop := blendMixesRow.holds Try.pinned (OpenSpec.ofChange blendMixesWrong)

/-- 'pestlelaw28.BlendTurns': WHATEVER THE INPUT: true; the input reads as it did. -/
def blendTurnsSpec : ChangeSpec := { name := "blendTurns", fn := fun _ => fun
  | [d1, d2] => { results := [.lit (.bool true)], args := [d1, d2] }
  | _ => none }
def blendTurnsRow : OpenClaim := { program := "ytjehpceomlnicaa", sum := "6403addac1dcf3783dfcc65949aea5091d46efb287b19fc342612f53fe008e61", func := "pestle/pestlelaw28.BlendTurns", spec := "blendTurns", apart := false }
def BlendTurnsSaid : Prop := blendTurnsRow.holds Try.pinned (OpenSpec.ofChange blendTurnsSpec)

/-- ITS FALSE NEIGHBOUR: 'it returns false'. Refute it at one input. -/
def blendTurnsWrong : ChangeSpec := { name := "blendTurns", fn := fun _ => fun
  | [d1, d2] => { results := [.lit (.bool false)], args := [d1, d2] }
  | _ => none }
def BlendTurnsWrongFalsely : Prop := blendTurnsRow.holds Try.pinned (OpenSpec.ofChange blendTurnsWrong)

/-- 'pestlelaw27.ShapeTurns': WHATEVER THE INPUT: true; the input reads as it did. -/
def shapeTurnsSpec : ChangeSpec := { name := "shapeTurns", fn := fun _ => fun
  | [d] => { results := [.lit (.bool true)], args := [d] }
  | _ => none }
def shapeTurnsRow : OpenClaim := { program := "ytjehpceomlnicaa", sum := "6403addac1dcf3783dfcc65949aea5091d46efb287b19fc342612f53fe008e61", func := "pestle/pestlelaw27.ShapeTurns", spec := "shapeTurns", apart := false }
def ShapeTurnsSaid : Prop := shapeTurnsRow.holds Try.pinned (OpenSpec.ofChange shapeTurnsSpec)

/-- ITS FALSE NEIGHBOUR: 'it returns false'. Refute it at one input. -/
def shapeTurnsWrong : ChangeSpec := { name := "shapeTurns", fn := fun _ => fun
  | [d] => { results := [.lit (.bool false)], args := [d] }
  | _ => none }
def ShapeTurnsWrongFalsely : Prop := shapeTurnsRow.holds Try.pinned (OpenSpec.ofChange shapeTurnsWrong)

/-- 'pestlelaw29.PlaceOf': WHATEVER THE INPUT: true; the input reads as it did. -/
def placeOfSpec : ChangeSpec := { name := "placeOf", fn := fun _ => fun
  | [d1, d2, d3, d4, d5, d6] => { results := [.lit (.bool true)], args := [d1, d2, d3, d4, d5, d6] }
  | _ => none }
def placeOfRow : OpenClaim := { program := "ytjehpceomlnicaa", sum := "6403addac1dcf3783dfcc65949aea5091d46efb287b19fc342612f53fe008e61", func := "pestle/pestlelaw29.PlaceOf", spec := "placeOf", apart := false }
def PlaceOfSaid : Prop := placeOfRow.holds Try.pinned (OpenSpec.ofChange placeOfSpec)

/-- ITS FALSE NEIGHBOUR: 'it returns false'. Refute it at one input. -/
def placeOfWrong : ChangeSpec := { name := "placeOf", fn := fun _ => fun
  | [d1, d2, d3, d4, d5, d6] => { results := [.lit (.bool false)], args := [d1, d2, d3, d4, d5, d6] }
  | _ => none }
def PlaceOfWrongFalsely : Prop := placeOfRow.holds Try.pinned (OpenSpec.ofChange placeOfWrong)

/-- 'pestlelaw39.BoundRests': WHATEVER THE INPUT: true; the input reads as it did. -/
def boundRestsSpec : ChangeSpec := { name := "boundRests", fn := fun _ => fun
  | [d1, d2, d3] => { results := [.lit (.bool true)], args := [d1, d2, d3] }
  | _ => none }
def boundRestsRow : OpenClaim := { program := "ytjehpceomlnicaa", sum := "6403addac1dcf3783dfcc65949aea5091d46efb287b19fc342612f53fe008e61", func := "pestle/pestlelaw39.BoundRests", spec := "boundRests", apart := false }
def BoundRestsSaid : Prop := boundRestsRow.holds Try.pinned (OpenSpec.ofChange boundRestsSpec)

/-- ITS FALSE NEIGHBOUR: 'it returns false'. Refute it at one input. -/
def boundRestsWrong : ChangeSpec := { name := "boundRests", fn := fun _ => fun
  | [d1, d2, d3] => { results := [.lit (.bool false)], args := [d1, d2, d3] }
  | _ => none }
def BoundRestsWrongFalsely : Prop := boundRestsRow.holds Try.pinned (OpenSpec.ofChange boundRestsWrong)

/-- 'pestlelaw29.PlaceSettled': WHATEVER THE INPUT: true; the input reads as it did. -/
def placeSettledSpec : ChangeSpec := { name := "placeSettled", fn := fun _ => fun
  | [d1, d2, d3, d4, d5, d6] => { results := [.lit (.bool true)], args := [d1, d2, d3, d4, d5, d6] }
  | _ => none }
def placeSettledRow : OpenClaim := { program := "ytjehpceomlnicaa", sum := "6403addac1dcf3783dfcc65949aea5091d46efb287b19fc342612f53fe008e61", func := "pestle/pestlelaw29.PlaceSettled", spec := "placeSettled", apart := false }
def PlaceSettledSaid : Prop := placeSettledRow.holds Try.pinned (OpenSpec.ofChange placeSettledSpec)

/-- ITS FALSE NEIGHBOUR: 'it returns false'. Refute it at one input. -/
def placeSettledWrong : ChangeSpec := { name := "placeSettled", fn := fun _ => fun
  | [d1, d2, d3, d4, d5, d6] => { results := [.lit (.bool false)], args := [d1, d2, d3, d4, d5, d6] }
  | _ => none }
def PlaceSettledWrongFalsely : Prop := placeSettledRow.holds Try.pinned (OpenSpec.ofChange placeSettledWrong)

/-- 'pestlelaw61.PepperWraps': WHATEVER THE INPUT: true; the input reads as it did. -/
def pepperWrapsSpec : ChangeSpec := { name := "pepperWraps", fn := fun _ => fun
  | [d1, d2, d3] => { results := [.lit (.bool true)], args := [d1, d2, d3] }
  | _ => none }
def pepperWrapsRow : OpenClaim := { program := "ytjehpceomlnicaa", sum := "6403addac1dcf3783dfcc65949aea5091d46efb287b19fc342612f53fe008e61", func := "pestle/pestlelaw61.PepperWraps", spec := "pepperWraps", apart := false }
def PepperWrapsSaid : Prop := pepperWrapsRow.holds Try.pinned (OpenSpec.ofChange pepperWrapsSpec)

/-- ITS FALSE NEIGHBOUR: 'it returns false'. Refute it at one input. -/
def pepperWrapsWrong : ChangeSpec := { name := "pepperWraps", fn := fun _ => fun
  | [d1, d2, d3] => { results := [.lit (.bool false)], args := [d1, d2, d3] }
  | _ => none }
def PepperWrapsWrongFalsely : Prop := pepperWrapsRow.holds Try.pinned (OpenSpec.ofChange pepperWrapsWrong)

/-- 'pestlelaw30.AddressBlocks': WHATEVER THE INPUT: true; the input reads as it did. -/
def addressBlocksSpec : ChangeSpec := { name := "addressBlocks", fn := fun _ => fun
  | [d1, d2, d3, d4] => { results := [.lit (.bool true)], args := [d1, d2, d3, d4] }
  | _ => none }
def addressBlocksRow : OpenClaim := { program := "ytjehpceomlnicaa", sum := "6403addac1dcf3783dfcc65949aea5091d46efb287b19fc342612f53fe008e61", func := "pestle/pestlelaw30.AddressBlocks", spec := "addressBlocks", apart := false }
def AddressBlocksSaid : Prop := addressBlocksRow.holds Try.pinned (OpenSpec.ofChange addressBlocksSpec)

/-- ITS FALSE NEIGHBOUR: 'it returns false'. Refute it at one input. -/
def addressBlocksWrong : ChangeSpec := { name := "addressBlocks", fn := fun _ => fun
  | [d1, d2, d3, d4] => { results := [.lit (.bool false)], args := [d1, d2, d3, d4] }
  | _ => none }
def AddressBlocksWrongFalsely : Prop := addressBlocksRow.holds Try.pinned (OpenSpec.ofChange addressBlocksWrong)

/-- 'pestlelaw30.AddressSource': WHATEVER THE INPUT: true; the input reads as it did. -/
def addressSourceSpec : ChangeSpec := { name := "addressSource", fn := fun _ => fun
  | [d1, d2, d3, d4] => { results := [.lit (.bool true)], args := [d1, d2, d3, d4] }
  | _ => none }
def addressSourceRow : OpenClaim := { program := "ytjehpceomlnicaa", sum := "6403addac1dcf3783dfcc65949aea5091d46efb287b19fc342612f53fe008e61", func := "pestle/pestlelaw30.AddressSource", spec := "addressSource", apart := false }
def AddressSourceSaid : Prop := addressSourceRow.holds Try.pinned (OpenSpec.ofChange addressSourceSpec)

/-- ITS FALSE NEIGHBOUR: 'it returns false'. Refute it at one input. -/
def addressSourceWrong : ChangeSpec := { name := "addressSource", fn := fun _ => fun
  | [d1, d2, d3, d4] => { results := [.lit (.bool false)], args := [d1, d2, d3, d4] }
  | _ => none }
def AddressSourceWrongFalsely : Prop := addressSourceRow.holds Try.pinned (OpenSpec.ofChange addressSourceWrong)

/-- 'pestlelaw07.BlakeCompresses': WHATEVER THE INPUT: true; the input reads as it did. -/
def blakeCompressesSpec : ChangeSpec := { name := "blakeCompresses", fn := fun _ => fun
  | [d1, d2, d3, d4] => { results := [.lit (.bool true)], args := [d1, d2, d3, d4] }
  | _ => none }
def blakeCompressesRow : OpenClaim := { program := "ytjehpceomlnicaa", sum := "6403addac1dcf3783dfcc65949aea5091d46efb287b19fc342612f53fe008e61", func := "pestle/pestlelaw07.BlakeCompresses", spec := "blakeCompresses", apart := false }
def BlakeCompressesSaid : Prop := blakeCompressesRow.holds Try.pinned (OpenSpec.ofChange blakeCompressesSpec)

/-- ITS FALSE NEIGHBOUR: 'it returns false'. Refute it at one input. -/
def blakeCompressesWrong : ChangeSpec := { name := "blakeCompresses", fn := fun _ => fun
  | [d1, d2, d3, d4] => { results := [.lit (.bool false)], args := [d1, d2, d3, d4] }
  | _ => none }
def BlakeCompressesWrongFalsely : Prop := blakeCompressesRow.holds Try.pinned (OpenSpec.ofChange blakeCompressesWrong)

/- THE SECOND FORM. 'bulk': how many values and letters a reading holds, each counted each time it is reached (what is shared counts as often as it is met; a slice's spare places count too). A statement '..UptoSaid' is the law's where the arguments, and the package variables that the reading takes, are together of bulk at most 1048576: NARROWER than '..Said'. Prove '..Said' where nothing that the law and all that it calls make is longer than what came in: it says more and counts as full. Else prove '..UptoSaid'. A law counts once. -/
mutual
def uptoBulk {H : Type} : DataW H → Nat
  | .lit (.string bytes) => bytes.length + 1
  | .lit _ => 1
  | .nil => 1
  | .ptr d => uptoBulk d + 1
  | .slice elems spare => uptoBulkAll elems + uptoBulkAll spare + 1
  | .agg parts => uptoBulkAll parts + 1
  | .iface _ d => uptoBulk d + 1
  | .map entries => uptoBulkEntries entries + 1
  | .held _ => 1
def uptoBulkAll {H : Type} : List (DataW H) → Nat
  | [] => 0
  | d :: r => uptoBulk d + uptoBulkAll r
def uptoBulkEntries {H : Type} : List (Lit × DataW H) → Nat
  | [] => 0
  | x :: r => uptoBulkEntry x + uptoBulkEntries r
def uptoBulkEntry {H : Type} : Lit × DataW H → Nat
  | (.string bytes, d) => bytes.length + uptoBulk d + 1
  | (_, d) => uptoBulk d + 1
 end
def uptoSmall : (H : Type) → List (DataW H) → Bool := fun _ ds => decide (uptoBulkAll ds ≤ 1048576)
def OpenSpec.upto (s : _root_.Go.ChangeSpec) : _root_.Go.OpenSpec := { _root_.Go.OpenSpec.ofChange s with cond := some uptoSmall }

/-- 'pestlelaw59.ProbeWrong', WHERE WHAT IT READS IS OF BULK AT MOST 1048576: true; the input reads as it did. -/
def probeWrongUptoRow : OpenClaim := { program := "ytjehpceomlnicaa", sum := "6403addac1dcf3783dfcc65949aea5091d46efb287b19fc342612f53fe008e61", func := "pestle/pestlelaw59.ProbeWrong", spec := "probeWrong", apart := false, narrowed := true }
def ProbeWrongUptoSaid : Prop := probeWrongUptoRow.holds Try.pinned (OpenSpec.upto probeWrongSpec)

/-- 'pestlelaw29.PlacePicks', WHERE WHAT IT READS IS OF BULK AT MOST 1048576: true; the input reads as it did. -/
def placePicksUptoRow : OpenClaim := { program := "ytjehpceomlnicaa", sum := "6403addac1dcf3783dfcc65949aea5091d46efb287b19fc342612f53fe008e61", func := "pestle/pestlelaw29.PlacePicks", spec := "placePicks", apart := false, narrowed := true }
def PlacePicksUptoSaid : Prop := placePicksUptoRow.holds Try.pinned (OpenSpec.upto placePicksSpec)

/-- 'pestlelaw27.ShapePlaces', WHERE WHAT IT READS IS OF BULK AT MOST 1048576: true; the input reads as it did. -/
def shapePlacesUptoRow : OpenClaim := { program := "ytjehpceomlnicaa", sum := "6403addac1dcf3783dfcc65949aea5091d46efb287b19fc342612f53fe008e61", func := "pestle/pestlelaw27.ShapePlaces", spec := "shapePlaces", apart := false, narrowed := true }
def ShapePlacesUptoSaid : Prop := shapePlacesUptoRow.holds Try.pinned (OpenSpec.upto shapePlacesSpec)

/-- 'pestlelaw35.GatePlays', WHERE WHAT IT READS IS OF BULK AT MOST 1048576: true; the input reads as it did. -/
def gatePlaysUptoRow : OpenClaim := { program := "ytjehpceomlnicaa", sum := "6403addac1dcf3783dfcc65949aea5091d46efb287b19fc342612f53fe008e61", func := "pestle/pestlelaw35.GatePlays", spec := "gatePlays", apart := false, narrowed := true }
def GatePlaysUptoSaid : Prop := gatePlaysUptoRow.holds Try.pinned (OpenSpec.upto gatePlaysSpec)

/-- 'pestlelaw35.GateOrders', WHERE WHAT IT READS IS OF BULK AT MOST 1048576: true; the input reads as it did. -/
def gateOrdersUptoRow : OpenClaim := { program := "ytjehpceomlnicaa", sum := "6403addac1dcf3783dfcc65949aea5091d46efb287b19fc342612f53fe008e61", func := "pestle/pestlelaw35.GateOrders", spec := "gateOrders", apart := false, narrowed := true }
def GateOrdersUptoSaid : Prop := gateOrdersUptoRow.holds Try.pinned (OpenSpec.upto gateOrdersSpec)

/-- 'pestlelaw28.BlendPermutes', WHERE WHAT IT READS IS OF BULK AT MOST 1048576: true; the input reads as it did. -/
def blendPermutesUptoRow : OpenClaim := { program := "ytjehpceomlnicaa", sum := "6403addac1dcf3783dfcc65949aea5091d46efb287b19fc342612f53fe008e61", func := "pestle/pestlelaw28.BlendPermutes", spec := "blendPermutes", apart := false, narrowed := true }
def BlendPermutesUptoSaid : Prop := blendPermutesUptoRow.holds Try.pinned (OpenSpec.upto blendPermutesSpec)

/-- 'pestlelaw28.BlendMixes', WHERE WHAT IT READS IS OF BULK AT MOST 1048576: true; the input reads as it did. -/
def blendMixesUptoRow : OpenClaim := { program := "ytjehpceomlnicaa", sum := "6403addac1dcf3783dfcc65949aea5091d46efb287b19fc342612f53fe008e61", func := "pestle/pestlelaw28.BlendMixes", spec := "blendMixes", apart := false, narrowed := true }
def BlendMixesUptoSaid : Prop := blendMixesUptoRow.holds Try.pinned (OpenSpec.upto blendMixesSpec)

/-- 'pestlelaw28.BlendTurns', WHERE WHAT IT READS IS OF BULK AT MOST 1048576: true; the input reads as it did. -/
def blendTurnsUptoRow : OpenClaim := { program := "ytjehpceomlnicaa", sum := "6403addac1dcf3783dfcc65949aea5091d46efb287b19fc342612f53fe008e61", func := "pestle/pestlelaw28.BlendTurns", spec := "blendTurns", apart := false, narrowed := true }
def BlendTurnsUptoSaid : Prop := blendTurnsUptoRow.holds Try.pinned (OpenSpec.upto blendTurnsSpec)

/-- 'pestlelaw27.ShapeTurns', WHERE WHAT IT READS IS OF BULK AT MOST 1048576: true; the input reads as it did. -/
def shapeTurnsUptoRow : OpenClaim := { program := "ytjehpceomlnicaa", sum := "6403addac1dcf3783dfcc65949aea5091d46efb287b19fc342612f53fe008e61", func := "pestle/pestlelaw27.ShapeTurns", spec := "shapeTurns", apart := false, narrowed := true }
def ShapeTurnsUptoSaid : Prop := shapeTurnsUptoRow.holds Try.pinned (OpenSpec.upto shapeTurnsSpec)

/-- 'pestlelaw29.PlaceOf', WHERE WHAT IT READS IS OF BULK AT MOST 1048576: true; the input reads as it did. -/
def placeOfUptoRow : OpenClaim := { program := "ytjehpceomlnicaa", sum := "6403addac1dcf3783dfcc65949aea5091d46efb287b19fc342612f53fe008e61", func := "pestle/pestlelaw29.PlaceOf", spec := "placeOf", apart := false, narrowed := true }
def PlaceOfUptoSaid : Prop := placeOfUptoRow.holds Try.pinned (OpenSpec.upto placeOfSpec)

/-- 'pestlelaw39.BoundRests', WHERE WHAT IT READS IS OF BULK AT MOST 1048576: true; the input reads as it did. -/
def boundRestsUptoRow : OpenClaim := { program := "ytjehpceomlnicaa", sum := "6403addac1dcf3783dfcc65949aea5091d46efb287b19fc342612f53fe008e61", func := "pestle/pestlelaw39.BoundRests", spec := "boundRests", apart := false, narrowed := true }
def BoundRestsUptoSaid : Prop := boundRestsUptoRow.holds Try.pinned (OpenSpec.upto boundRestsSpec)

/-- 'pestlelaw29.PlaceSettled', WHERE WHAT IT READS IS OF BULK AT MOST 1048576: true; the input reads as it did. -/
def placeSettledUptoRow : OpenClaim := { program := "ytjehpceomlnicaa", sum := "6403addac1dcf3783dfcc65949aea5091d46efb287b19fc342612f53fe008e61", func := "pestle/pestlelaw29.PlaceSettled", spec := "placeSettled", apart := false, narrowed := true }
def PlaceSettledUptoSaid : Prop := placeSettledUptoRow.holds Try.pinned (OpenSpec.upto placeSettledSpec)

/-- 'pestlelaw61.PepperWraps', WHERE WHAT IT READS IS OF BULK AT MOST 1048576: true; the input reads as it did. -/
def pepperWrapsUptoRow : OpenClaim := { program := "ytjehpceomlnicaa", sum := "6403addac1dcf3783dfcc65949aea5091d46efb287b19fc342612f53fe008e61", func := "pestle/pestlelaw61.PepperWraps", spec := "pepperWraps", apart := false, narrowed := true }
def PepperWrapsUptoSaid : Prop := pepperWrapsUptoRow.holds Try.pinned (OpenSpec.upto pepperWrapsSpec)

/-- 'pestlelaw30.AddressBlocks', WHERE WHAT IT READS IS OF BULK AT MOST 1048576: true; the input reads as it did. -/
def addressBlocksUptoRow : OpenClaim := { program := "ytjehpceomlnicaa", sum := "6403addac1dcf3783dfcc65949aea5091d46efb287b19fc342612f53fe008e61", func := "pestle/pestlelaw30.AddressBlocks", spec := "addressBlocks", apart := false, narrowed := true }
def AddressBlocksUptoSaid : Prop := addressBlocksUptoRow.holds Try.pinned (OpenSpec.upto addressBlocksSpec)

/-- 'pestlelaw30.AddressSource', WHERE WHAT IT READS IS OF BULK AT MOST 1048576: true; the input reads as it did. -/
def addressSourceUptoRow : OpenClaim := { program := "ytjehpceomlnicaa", sum := "6403addac1dcf3783dfcc65949aea5091d46efb287b19fc342612f53fe008e61", func := "pestle/pestlelaw30.AddressSource", spec := "addressSource", apart := false, narrowed := true }
def AddressSourceUptoSaid : Prop := addressSourceUptoRow.holds Try.pinned (OpenSpec.upto addressSourceSpec)

/-- 'pestlelaw07.BlakeCompresses', WHERE WHAT IT READS IS OF BULK AT MOST 1048576: true; the input reads as it did. -/
def blakeCompressesUptoRow : OpenClaim := { program := "ytjehpceomlnicaa", sum := "6403addac1dcf3783dfcc65949aea5091d46efb287b19fc342612f53fe008e61", func := "pestle/pestlelaw07.BlakeCompresses", spec := "blakeCompresses", apart := false, narrowed := true }
def BlakeCompressesUptoSaid : Prop := blakeCompressesUptoRow.holds Try.pinned (OpenSpec.upto blakeCompressesSpec)

end Rows
end Go.Proofs.Ytjehpceomlnicaa
