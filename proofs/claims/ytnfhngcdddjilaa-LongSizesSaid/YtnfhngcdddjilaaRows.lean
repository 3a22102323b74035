/-
  No cell of these rows narrows 'for every input' (looked for: loops, veiled, ifaces, maps, wideKeys, modest, calm, conditions, laid).
  DERIVED. THE GIVEN ROWS OF THIS SEAT. 8 by the template 'for every input the law returns true; each argument reads behind the call as it read before'; 0 by the template 'total and deterministic' (their statements: YtnfhngcdddjilaaTotals.lean).
  GIVEN WITH THE SEED: the statements are not yours to turn. If you find one false, say at which input.
  Laid BY PROGRAM, IN A SANDBOX (cutbox-rows.mjs): the forced cells as the released guide's own fill.sh prints them over the translation 98c0d7881fe2bcdf… (all of the seat's roots in one cut). By AI agents, Wed Nov 11 2026. No macro, syntax, notation, axiom, sorry.
-/
import Derived.Test.YtnfhngcdddjilaaChecked
import GoSem.Claim
import GoSem.ClaimJoined
import GoSem.ClaimMapViews
import Derived.JoinedTies
import Derived.KernelRfl
namespace Go.Proofs.Ytnfhngcdddjilaa
/- THE CELL 'sum', in the pinned program and in every row, IS THE sha256 OF THE DUMP (.gsa) THAT YtnfhngcdddjilaaProg.lean LOADS. Nothing in Lean hashes anything: it is a label: what it is worth is what the hold of that sum in a sandbox is worth. -/
noncomputable def Try.pinned : Pinned := { name := "ytnfhngcdddjilaa", sum := "98c0d7881fe2bcdf826e652bb2a46148480248abf25844da0ab4255263d09821", checked := Try.checked }
namespace Rows
def none {H : Type} : Left H := { results := [], args := [] }

/-- 'pestlelaw07.BlakeCompresses': WHATEVER THE INPUT: true; the input reads as it did. -/
def blakeCompressesSpec : ChangeSpec := { name := "blakeCompresses", fn := fun _ => fun
  | [d1, d2, d3, d4] => { results := [.lit (.bool true)], args := [d1, d2, d3, d4] }
  | _ => none }
def blakeCompressesRow : OpenClaim := { program := "ytnfhngcdddjilaa", sum := "98c0d7881fe2bcdf826e652bb2a46148480248abf25844da0ab4255263d09821", func := "pestle/pestlelaw07.BlakeCompresses", spec := "blakeCompresses", apart := false }
def BlakeCompressesSaid : Prop := blakeCompressesRow.holds Try.pinned (OpenSpec.ofChange blakeCompressesSpec)

/-- ITS FALSE NEIGHBOUR: 'it returns false'. Refute it at one input. -/
def blakeCompressesWrong : ChangeSpec := { name := "blakeCompresses", fn := fun _ => fun
  | [d1, d2, d3, d4] => { results := [.lit (.bool false)], args := [d1, d2, d3, d4] }
  | _ => none }
def BlakeCompressesWrongFalsely : Prop := blakeCompressesRow.holds Try.pinned (OpenSpec.ofChange blakeCompressesWrong)

/-- 'pestlelaw07.BlakeMixes': WHATEVER THE INPUT: true; the input reads as it did. -/
def blakeMixesSpec : ChangeSpec := { name := "blakeMixes", fn := fun _ => fun
  | [d1, d2] => { results := [.lit (.bool true)], args := [d1, d2] }
  | _ => none }
def blakeMixesRow : OpenClaim := { program := "ytnfhngcdddjilaa", sum := "98c0d7881fe2bcdf826e652bb2a46148480248abf25844da0ab4255263d09821", func := "pestle/pestlelaw07.BlakeMixes", spec := "blakeMixes", apart := false }
def BlakeMixesSaid : Prop := blakeMixesRow.holds Try.pinned (OpenSpec.ofChange blakeMixesSpec)

/-- ITS FALSE NEIGHBOUR: 'it returns false'. Refute it at one input. -/
def blakeMixesWrong : ChangeSpec := { name := "blakeMixes", fn := fun _ => fun
  | [d1, d2] => { results := [.lit (.bool false)], args := [d1, d2] }
  | _ => none }
def BlakeMixesWrongFalsely : Prop := blakeMixesRow.holds Try.pinned (OpenSpec.ofChange blakeMixesWrong)

/-- 'pestlelaw07.BlakeSums': WHATEVER THE INPUT: true; the input reads as it did. -/
def blakeSumsSpec : ChangeSpec := { name := "blakeSums", fn := fun _ => fun
  | [d1, d2, d3] => { results := [.lit (.bool true)], args := [d1, d2, d3] }
  | _ => none }
def blakeSumsRow : OpenClaim := { program := "ytnfhngcdddjilaa", sum := "98c0d7881fe2bcdf826e652bb2a46148480248abf25844da0ab4255263d09821", func := "pestle/pestlelaw07.BlakeSums", spec := "blakeSums", apart := false }
def BlakeSumsSaid : Prop := blakeSumsRow.holds Try.pinned (OpenSpec.ofChange blakeSumsSpec)

/-- ITS FALSE NEIGHBOUR: 'it returns false'. Refute it at one input. -/
def blakeSumsWrong : ChangeSpec := { name := "blakeSums", fn := fun _ => fun
  | [d1, d2, d3] => { results := [.lit (.bool false)], args := [d1, d2, d3] }
  | _ => none }
def BlakeSumsWrongFalsely : Prop := blakeSumsRow.holds Try.pinned (OpenSpec.ofChange blakeSumsWrong)

/-- 'pestlelaw07.BlakeParts': WHATEVER THE INPUT: true; the input reads as it did. -/
def blakePartsSpec : ChangeSpec := { name := "blakeParts", fn := fun _ => fun
  | [d1, d2, d3, d4] => { results := [.lit (.bool true)], args := [d1, d2, d3, d4] }
  | _ => none }
def blakePartsRow : OpenClaim := { program := "ytnfhngcdddjilaa", sum := "98c0d7881fe2bcdf826e652bb2a46148480248abf25844da0ab4255263d09821", func := "pestle/pestlelaw07.BlakeParts", spec := "blakeParts", apart := false }
def BlakePartsSaid : Prop := blakePartsRow.holds Try.pinned (OpenSpec.ofChange blakePartsSpec)

/-- ITS FALSE NEIGHBOUR: 'it returns false'. Refute it at one input. -/
def blakePartsWrong : ChangeSpec := { name := "blakeParts", fn := fun _ => fun
  | [d1, d2, d3, d4] => { results := [.lit (.bool false)], args := [d1, d2, d3, d4] }
  | _ => none }
def BlakePartsWrongFalsely : Prop := blakePartsRow.holds Try.pinned (OpenSpec.ofChange blakePartsWrong)

/-- 'pestlelaw08.LongSums': WHATEVER THE INPUT: true; the input reads as it did. -/
def longSumsSpec : ChangeSpec := { name := "longSums", fn := fun _ => fun
  | [d1, d2] => { results := [.lit (.bool true)], args := [d1, d2] }
  | _ => none }
def longSumsRow : OpenClaim := { program := "ytnfhngcdddjilaa", sum := "98c0d7881fe2bcdf826e652bb2a46148480248abf25844da0ab4255263d09821", func := "pestle/pestlelaw08.LongSums", spec := "longSums", apart := false }
def LongSumsSaid : Prop := longSumsRow.holds Try.pinned (OpenSpec.ofChange longSumsSpec)

/-- ITS FALSE NEIGHBOUR: 'it returns false'. Refute it at one input. -/
def longSumsWrong : ChangeSpec := { name := "longSums", fn := fun _ => fun
  | [d1, d2] => { results := [.lit (.bool false)], args := [d1, d2] }
  | _ => none }
def LongSumsWrongFalsely : Prop := longSumsRow.holds Try.pinned (OpenSpec.ofChange longSumsWrong)

/-- 'pestlelaw08.LongSizes': WHATEVER THE INPUT: true; the input reads as it did. -/
def longSizesSpec : ChangeSpec := { name := "longSizes", fn := fun _ => fun
  | [d1, d2] => { results := [.lit (.bool true)], args := [d1, d2] }
  | _ => none }
def longSizesRow : OpenClaim := { program := "ytnfhngcdddjilaa", sum := "98c0d7881fe2bcdf826e652bb2a46148480248abf25844da0ab4255263d09821", func := "pestle/pestlelaw08.LongSizes", spec := "longSizes", apart := false }
def LongSizesSaid : Prop := longSizesRow.holds Try.pinned (OpenSpec.ofChange longSizesSpec)

/-- ITS FALSE NEIGHBOUR: 'it returns false'. Refute it at one input. -/
def longSizesWrong : ChangeSpec := { name := "longSizes", fn := fun _ => fun
  | [d1, d2] => { results := [.lit (.bool false)], args := [d1, d2] }
  | _ => none }
def LongSizesWrongFalsely : Prop := longSizesRow.holds Try.pinned (OpenSpec.ofChange longSizesWrong)

/-- 'pestlelaw31.GridStores': WHATEVER THE INPUT: true; the input reads as it did. -/
def gridStoresSpec : ChangeSpec := { name := "gridStores", fn := fun _ => fun
  | [d1, d2] => { results := [.lit (.bool true)], args := [d1, d2] }
  | _ => none }
def gridStoresRow : OpenClaim := { program := "ytnfhngcdddjilaa", sum := "98c0d7881fe2bcdf826e652bb2a46148480248abf25844da0ab4255263d09821", func := "pestle/pestlelaw31.GridStores", spec := "gridStores", apart := false }
def GridStoresSaid : Prop := gridStoresRow.holds Try.pinned (OpenSpec.ofChange gridStoresSpec)

/-- ITS FALSE NEIGHBOUR: 'it returns false'. Refute it at one input. -/
def gridStoresWrong : ChangeSpec := { name := "gridStores", fn := fun _ => fun
  | [d1, d2] => { results := [.lit (.bool false)], args := [d1, d2] }
  | _ => none }
def GridStoresWrongFalsely : Prop := gridStoresRow.holds Try.pinned (OpenSpec.ofChange gridStoresWrong)

/-- 'pestlelaw31.GridTags': WHATEVER THE INPUT: true; the input reads as it did. -/
def gridTagsSpec : ChangeSpec := { name := "gridTags", fn := fun _ => fun
  | [d1, d2, d3] => { results := [.lit (.bool true)], args := [d1, d2, d3] }
  | _ => none }
def gridTagsRow : OpenClaim := { program := "ytnfhngcdddjilaa", sum := "98c0d7881fe2bcdf826e652bb2a46148480248abf25844da0ab4255263d09821", func := "pestle/pestlelaw31.GridTags", spec := "gridTags", apart := false }
def GridTagsSaid : Prop := gridTagsRow.holds Try.pinned (OpenSpec.ofChange gridTagsSpec)

/-- ITS FALSE NEIGHBOUR: 'it returns false'. Refute it at one input. -/
def gridTagsWrong : ChangeSpec := { name := "gridTags", fn := fun _ => fun
  | [d1, d2, d3] => { results := [.lit (.bool false)], args := [d1, d2, d3] }
  | _ => none }
def GridTagsWrongFalsely : Prop := gridTagsRow.holds Try.pinned (OpenSpec.ofChange gridTagsWrong)

/- THE SECOND FORM. 'bulk': how many values and letters a reading holds, each counted each time it is reached (what is shared counts as often as it is met; a slice's spare places count too). A statement '..UptoSaid' is the law's where the arguments, and the package variables that the reading takes, are together of bulk at most 1048576: NARROWER than '..Said'. Prove '..Said' where nothing that the law and all that it calls make is longer than what came in: it says more and counts as full. Else prove '..UptoSaid'. A law counts once. -/
mutual
def uptoBulk {H : Type} : DataW H → Nat
  | .lit (.string bytes) => bytes.length + 1
  | .lit _ => 1
  | .nil => 1
  | .ptr d => uptoBulk d + 1
  | .slice elems spare => uptoBulkAll elems + uptoBulkAll spare + 1
  | .agg parts => uptoBulkAll parts + 1
  | .iface _ d => uptoBulk d + 1
  | .map entries => uptoBulkEntries entries + 1
  | .held _ => 1
def uptoBulkAll {H : Type} : List (DataW H) → Nat
  | [] => 0
  | d :: r => uptoBulk d + uptoBulkAll r
def uptoBulkEntries {H : Type} : List (Lit × DataW H) → Nat
  | [] => 0
  | x :: r => uptoBulkEntry x + uptoBulkEntries r
def uptoBulkEntry {H : Type} : Lit × DataW H → Nat
  | (.string bytes, d) => bytes.length + uptoBulk d + 1
  | (_, d) => uptoBulk d + 1
 end
def uptoSmall : (H : Type) → List (DataW H) → Bool := fun _ ds => decide (uptoBulkAll ds ≤ 1048576)
def OpenSpec.upto (s : _root_.Go.ChangeSpec) : _root_.Go.OpenSpec := { _root_.Go.OpenSpec.ofChange s with cond := some uptoSmall }

/-- 'pestlelaw07.BlakeCompresses', WHERE WHAT IT READS IS OF BULK AT MOST 1048576: true; the input reads as it did. -/
def blakeCompressesUptoRow : OpenClaim := { program := "ytnfhngcdddjilaa", sum := "98c0d7881fe2bcdf826e652bb2a46148480248abf25844da0ab4255263d09821", func := "pestle/pestlelaw07.BlakeCompresses", spec := "blakeCompresses", apart := false, narrowed := true }
def BlakeCompressesUptoSaid : Prop := blakeCompressesUptoRow.holds Try.pinned (OpenSpec.upto blakeCompressesSpec)

/-- 'pestlelaw07.BlakeMixes', WHERE WHAT IT READS IS OF BULK AT MOST 1048576: true; the input reads as it did. -/
def blakeMixesUptoRow : OpenClaim := { program := "ytnfhngcdddjilaa", sum := "98c0d7881fe2bcdf826e652bb2a46148480248abf25844da0ab4255263d09821", func := "pestle/pestlelaw07.BlakeMixes", spec := "blakeMixes", apart := false, narrowed := true }
def BlakeMixesUptoSaid : Prop := blakeMixesUptoRow.holds Try.pinned (OpenSpec.upto blakeMixesSpec)

/-- 'pestlelaw07.BlakeSums', WHERE WHAT IT READS IS OF BULK AT MOST 1048576: true; the input reads as it did. -/
def blakeSumsUptoRow : OpenClaim := { program := "ytnfhngcdddjilaa", sum := "98c0d7881fe2bcdf826e652bb2a46148480248abf25844da0ab4255263d09821", func := "pestle/pestlelaw07.BlakeSums", spec := "blakeSums", apart := false, narrowed := true }
def BlakeSumsUptoSaid : Prop := blakeSumsUptoRow.holds Try.pinned (OpenSpec.upto blakeSumsSpec)

/-- 'pestlelaw07.BlakeParts', WHERE WHAT IT READS IS OF BULK AT MOST 1048576: true; the input reads as it did. -/
def blakePartsUptoRow : OpenClaim := { program := "ytnfhngcdddjilaa", sum := "98c0d7881fe2bcdf826e652bb2a46148480248abf25844da0ab4255263d09821", func := "pestle/pestlelaw07.BlakeParts", spec := "blakeParts", apart := false, narrowed := true }
def BlakePartsUptoSaid : Prop := blakePartsUptoRow.holds Try.pinned (OpenSpec.upto blakePartsSpec)

/-- 'pestlelaw08.LongSums', WHERE WHAT IT READS IS OF BULK AT MOST 1048576: true; the input reads as it did. -/
def longSumsUptoRow : OpenClaim := { program := "ytnfhngcdddjilaa", sum := "98c0d7881fe2bcdf826e652bb2a46148480248abf25844da0ab4255263d09821", func := "pestle/pestlelaw08.LongSums", spec := "longSums", apart := false, narrowed := true }
def LongSumsUptoSaid : Prop := longSumsUptoRow.holds Try.pinned (OpenSpec.upto longSumsSpec)

/-- 'pestlelaw08.LongSizes', WHERE WHAT IT READS IS OF BULK AT MOST 1048576: true; the input reads as it did. -/
def longSizesUptoRow : OpenClaim := { program := "ytnfhngcdddjilaa", sum := "98c0d7881fe2bcdf826e652bb2a46148480248abf25844da0ab4255263d09821", func := "pestle/pestlelaw08.LongSizes", spec := "longSizes", apart := false, narrowed := true }
def LongSizesUptoSaid : Prop := longSizesUptoRow.holds Try.pinned (OpenSpec.upto longSizesSpec)

/-- 'pestlelaw31.GridStores', WHERE WHAT IT READS IS OF BULK AT MOST 1048576: true; the input reads as it did. -/
def gridStoresUptoRow : OpenClaim := { program := "ytnfhngcdddjilaa", sum := "98c0d7881fe2bcdf826e652bb2a46148480248abf25844da0ab4255263d09821", func := "pestle/pestlelaw31.GridStores", spec := "gridStores", apart := false, narrowed := true }
def GridStoresUptoSaid : Prop := gridStoresUptoRow.holds Try.pinned (OpenSpec.upto gridStoresSpec)

/-- 'pestlelaw31.GridTags', WHERE WHAT IT READS IS OF BULK AT MOST 1048576: true; the input reads as it did. -/
def gridTagsUptoRow : OpenClaim := { program := "ytnfhngcdddjilaa", sum := "98c0d7881fe2bcdf826e652bb2a46148480248abf25844da0ab4255263d09821", func := "pestle/pestlelaw31.GridTags", spec := "gridTags", apart := false, narrowed := true }
def GridTagsUptoSaid : Prop := gridTagsUptoRow.holds Try.pinned (OpenSpec.upto gridTagsSpec)

end Rows
end Go.Proofs.Ytnfhngcdddjilaa
