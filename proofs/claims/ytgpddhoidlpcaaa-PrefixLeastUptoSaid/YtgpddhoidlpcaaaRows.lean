/-
  No cell of these rows narrows 'for every input' (looked for: loops, veiled, ifaces, maps, wideKeys, modest, calm, conditions, laid).
  DERIVED. THE GIVEN ROWS OF THIS SEAT. 11 by the template 'for every input the law returns true; each argument reads behind the call as it read before'; 0 by the template 'total and deterministic' (their statements: YtgpddhoidlpcaaaTotals.lean).
  GIVEN WITH THE SEED: the statements are not yours to turn. If you find one false, say at which input.
  Laid BY PROGRAM, IN A SANDBOX (cutbox-rows.mjs): the forced cells as the released guide's own fill.sh prints them over the translation 6479f428a8888638… (all of the seat's roots in one cut). By AI agents, Wed Nov 11 2026. No macro, syntax, notation, axiom, sorry.
-/
import Derived.Test.YtgpddhoidlpcaaaChecked
import GoSem.Claim
import GoSem.ClaimJoined
import GoSem.ClaimMapViews
import Derived.JoinedTies
import Derived.KernelRfl
namespace Go.Proofs.Ytgpddhoidlpcaaa
/- THE CELL 'sum', in the pinned program and in every row, IS THE sha256 OF THE DUMP (.gsa) THAT YtgpddhoidlpcaaaProg.lean LOADS. Nothing in Lean hashes anything: it is a label: what it is worth is what the hold of that sum in a sandbox is worth. -/
noncomputable def Try.pinned : Pinned := { name := "ytgpddhoidlpcaaa", sum := "6479f428a8888638dada8abeb2453f4544d57aed9604b4bb4163faded0f0023f", checked := Try.checked }
namespace Rows
def none {H : Type} : Left H := { results := [], args := [] }

/-- 'aqueductlaw03.HuffCodes': WHATEVER THE INPUT: true; the input reads as it did. -/
def huffCodesSpec : ChangeSpec := { name := "huffCodes", fn := fun _ => fun
  | [d] => { results := [.lit (.bool true)], args := [d] }
  | _ => none }
def huffCodesRow : OpenClaim := { program := "ytgpddhoidlpcaaa", sum := "6479f428a8888638dada8abeb2453f4544d57aed9604b4bb4163faded0f0023f", func := "aqueduct/aqueductlaw03.HuffCodes", spec := "huffCodes", apart := false }
def HuffCodesSaid : Prop := huffCodesRow.holds Try.pinned (OpenSpec.ofChange huffCodesSpec)

/-- ITS FALSE NEIGHBOUR: 'it returns false'. Refute it at one input. -/
def huffCodesWrong : ChangeSpec := { name := "huffCodes", fn := fun _ => fun
  | [d] => { results := [.lit (.bool false)], args := [d] }
  | _ => none }
def HuffCodesWrongFalsely : Prop := huffCodesRow.holds Try.pinned (OpenSpec.ofChange huffCodesWrong)

/-- 'aqueductlaw03.HuffApart': WHATEVER THE INPUT: true; the input reads as it did. -/
def huffApartSpec : ChangeSpec := { name := "huffApart", fn := fun _ => fun
  | [d1, d2] => { results := [.lit (.bool true)], args := [d1, d2] }
  | _ => none }
def huffApartRow : OpenClaim := { program := "ytgpddhoidlpcaaa", sum := "6479f428a8888638dada8abeb2453f4544d57aed9604b4bb4163faded0f0023f", func := "aqueduct/aqueductlaw03.HuffApart", spec := "huffApart", apart := false }
def HuffApartSaid : Prop := huffApartRow.holds Try.pinned (OpenSpec.ofChange huffApartSpec)

/-- ITS FALSE NEIGHBOUR: 'it returns false'. Refute it at one input. -/
def huffApartWrong : ChangeSpec := { name := "huffApart", fn := fun _ => fun
  | [d1, d2] => { results := [.lit (.bool false)], args := [d1, d2] }
  | _ => none }
def HuffApartWrongFalsely : Prop := huffApartRow.holds Try.pinned (OpenSpec.ofChange huffApartWrong)

/-- 'aqueductlaw03.HuffSizes': WHATEVER THE INPUT: true; the input reads as it did. -/
def huffSizesSpec : ChangeSpec := { name := "huffSizes", fn := fun _ => fun
  | [d] => { results := [.lit (.bool true)], args := [d] }
  | _ => none }
def huffSizesRow : OpenClaim := { program := "ytgpddhoidlpcaaa", sum := "6479f428a8888638dada8abeb2453f4544d57aed9604b4bb4163faded0f0023f", func := "aqueduct/aqueductlaw03.HuffSizes", spec := "huffSizes", apart := false }
def HuffSizesSaid : Prop := huffSizesRow.holds Try.pinned (OpenSpec.ofChange huffSizesSpec)

/-- ITS FALSE NEIGHBOUR: 'it returns false'. Refute it at one input. -/
def huffSizesWrong : ChangeSpec := { name := "huffSizes", fn := fun _ => fun
  | [d] => { results := [.lit (.bool false)], args := [d] }
  | _ => none }
def HuffSizesWrongFalsely : Prop := huffSizesRow.holds Try.pinned (OpenSpec.ofChange huffSizesWrong)

/-- 'aqueductlaw03.HuffEncodes': WHATEVER THE INPUT: true; the input reads as it did. -/
def huffEncodesSpec : ChangeSpec := { name := "huffEncodes", fn := fun _ => fun
  | [d] => { results := [.lit (.bool true)], args := [d] }
  | _ => none }
def huffEncodesRow : OpenClaim := { program := "ytgpddhoidlpcaaa", sum := "6479f428a8888638dada8abeb2453f4544d57aed9604b4bb4163faded0f0023f", func := "aqueduct/aqueductlaw03.HuffEncodes", spec := "huffEncodes", unfollowed := true, recurses := true, apart := false }
def HuffEncodesSaid : Prop := huffEncodesRow.holds Try.pinned (OpenSpec.ofChange huffEncodesSpec)

/-- ITS FALSE NEIGHBOUR: 'it returns false'. Refute it at one input. -/
def huffEncodesWrong : ChangeSpec := { name := "huffEncodes", fn := fun _ => fun
  | [d] => { results := [.lit (.bool false)], args := [d] }
  | _ => none }
def HuffEncodesWrongFalsely : Prop := huffEncodesRow.holds Try.pinned (OpenSpec.ofChange huffEncodesWrong)

/-- 'aqueductlaw03.HuffDecodes': WHATEVER THE INPUT: true; the input reads as it did. -/
def huffDecodesSpec : ChangeSpec := { name := "huffDecodes", fn := fun _ => fun
  | [d] => { results := [.lit (.bool true)], args := [d] }
  | _ => none }
def huffDecodesRow : OpenClaim := { program := "ytgpddhoidlpcaaa", sum := "6479f428a8888638dada8abeb2453f4544d57aed9604b4bb4163faded0f0023f", func := "aqueduct/aqueductlaw03.HuffDecodes", spec := "huffDecodes", unfollowed := true, recurses := true, apart := false }
def HuffDecodesSaid : Prop := huffDecodesRow.holds Try.pinned (OpenSpec.ofChange huffDecodesSpec)

/-- ITS FALSE NEIGHBOUR: 'it returns false'. Refute it at one input. -/
def huffDecodesWrong : ChangeSpec := { name := "huffDecodes", fn := fun _ => fun
  | [d] => { results := [.lit (.bool false)], args := [d] }
  | _ => none }
def HuffDecodesWrongFalsely : Prop := huffDecodesRow.holds Try.pinned (OpenSpec.ofChange huffDecodesWrong)

/-- 'aqueductlaw03.HuffBack': WHATEVER THE INPUT: true; the input reads as it did. -/
def huffBackSpec : ChangeSpec := { name := "huffBack", fn := fun _ => fun
  | [d1, d2] => { results := [.lit (.bool true)], args := [d1, d2] }
  | _ => none }
def huffBackRow : OpenClaim := { program := "ytgpddhoidlpcaaa", sum := "6479f428a8888638dada8abeb2453f4544d57aed9604b4bb4163faded0f0023f", func := "aqueduct/aqueductlaw03.HuffBack", spec := "huffBack", unfollowed := true, recurses := true, apart := false }
def HuffBackSaid : Prop := huffBackRow.holds Try.pinned (OpenSpec.ofChange huffBackSpec)

/-- ITS FALSE NEIGHBOUR: 'it returns false'. Refute it at one input. -/
def huffBackWrong : ChangeSpec := { name := "huffBack", fn := fun _ => fun
  | [d1, d2] => { results := [.lit (.bool false)], args := [d1, d2] }
  | _ => none }
def HuffBackWrongFalsely : Prop := huffBackRow.holds Try.pinned (OpenSpec.ofChange huffBackWrong)

/-- 'aqueductlaw03.HuffPads': WHATEVER THE INPUT: true; the input reads as it did. -/
def huffPadsSpec : ChangeSpec := { name := "huffPads", fn := fun _ => fun
  | [d1, d2] => { results := [.lit (.bool true)], args := [d1, d2] }
  | _ => none }
def huffPadsRow : OpenClaim := { program := "ytgpddhoidlpcaaa", sum := "6479f428a8888638dada8abeb2453f4544d57aed9604b4bb4163faded0f0023f", func := "aqueduct/aqueductlaw03.HuffPads", spec := "huffPads", unfollowed := true, recurses := true, apart := false }
def HuffPadsSaid : Prop := huffPadsRow.holds Try.pinned (OpenSpec.ofChange huffPadsSpec)

/-- ITS FALSE NEIGHBOUR: 'it returns false'. Refute it at one input. -/
def huffPadsWrong : ChangeSpec := { name := "huffPads", fn := fun _ => fun
  | [d1, d2] => { results := [.lit (.bool false)], args := [d1, d2] }
  | _ => none }
def HuffPadsWrongFalsely : Prop := huffPadsRow.holds Try.pinned (OpenSpec.ofChange huffPadsWrong)

/-- 'aqueductlaw04.PrefixPuts': WHATEVER THE INPUT: true; the input reads as it did. -/
def prefixPutsSpec : ChangeSpec := { name := "prefixPuts", fn := fun _ => fun
  | [d1, d2, d3] => { results := [.lit (.bool true)], args := [d1, d2, d3] }
  | _ => none }
def prefixPutsRow : OpenClaim := { program := "ytgpddhoidlpcaaa", sum := "6479f428a8888638dada8abeb2453f4544d57aed9604b4bb4163faded0f0023f", func := "aqueduct/aqueductlaw04.PrefixPuts", spec := "prefixPuts", apart := false }
def PrefixPutsSaid : Prop := prefixPutsRow.holds Try.pinned (OpenSpec.ofChange prefixPutsSpec)

/-- ITS FALSE NEIGHBOUR: 'it returns false'. Refute it at one input. -/
def prefixPutsWrong : ChangeSpec := { name := "prefixPuts", fn := fun _ => fun
  | [d1, d2, d3] => { results := [.lit (.bool false)], args := [d1, d2, d3] }
  | _ => none }
def PrefixPutsWrongFalsely : Prop := prefixPutsRow.holds Try.pinned (OpenSpec.ofChange prefixPutsWrong)

/-- 'aqueductlaw04.PrefixTexts': WHATEVER THE INPUT: true; the input reads as it did. -/
def prefixTextsSpec : ChangeSpec := { name := "prefixTexts", fn := fun _ => fun
  | [d1, d2] => { results := [.lit (.bool true)], args := [d1, d2] }
  | _ => none }
def prefixTextsRow : OpenClaim := { program := "ytgpddhoidlpcaaa", sum := "6479f428a8888638dada8abeb2453f4544d57aed9604b4bb4163faded0f0023f", func := "aqueduct/aqueductlaw04.PrefixTexts", spec := "prefixTexts", unfollowed := true, recurses := true, apart := false }
def PrefixTextsSaid : Prop := prefixTextsRow.holds Try.pinned (OpenSpec.ofChange prefixTextsSpec)

/-- ITS FALSE NEIGHBOUR: 'it returns false'. Refute it at one input. -/
def prefixTextsWrong : ChangeSpec := { name := "prefixTexts", fn := fun _ => fun
  | [d1, d2] => { results := [.lit (.bool false)], args := [d1, d2] }
  | _ => none }
def PrefixTextsWrongFalsely : Prop := prefixTextsRow.holds Try.pinned (OpenSpec.ofChange prefixTextsWrong)

/-- 'aqueductlaw04.PrefixLeast': WHATEVER THE INPUT: true; the input reads as it did. -/
def prefixLeastSpec : ChangeSpec := { name := "prefixLeast", fn := fun _ => fun
  | [d1, d2, d3] => { results := [.lit (.bool true)], args := [d1, d2, d3] }
  | _ => none }
def prefixLeastRow : OpenClaim := { program := "ytgpddhoidlpcaaa", sum := "6479f428a8888638dada8abeb2453f4544d57aed9604b4bb4163faded0f0023f", func := "aqueduct/aqueductlaw04.PrefixLeast", spec := "prefixLeast", unfollowed := true, recurses := true, apart := false }
def PrefixLeastSaid : Prop := prefixLeastRow.holds Try.pinned (OpenSpec.ofChange prefixLeastSpec)

/-- ITS FALSE NEIGHBOUR: 'it returns false'. Refute it at one input. -/
def prefixLeastWrong : ChangeSpec := { name := "prefixLeast", fn := fun _ => fun
  | [d1, d2, d3] => { results := [.lit (.bool false)], args := [d1, d2, d3] }
  | _ => none }
def PrefixLeastWrongFalsely : Prop := prefixLeastRow.holds Try.pinned (OpenSpec.ofChange prefixLeastWrong)

/-- 'aqueductlaw04.PrefixBack': WHATEVER THE INPUT: true; the input reads as it did. -/
def prefixBackSpec : ChangeSpec := { name := "prefixBack", fn := fun _ => fun
  | [d1, d2, d3, d4, d5, d6] => { results := [.lit (.bool true)], args := [d1, d2, d3, d4, d5, d6] }
  | _ => none }
def prefixBackRow : OpenClaim := { program := "ytgpddhoidlpcaaa", sum := "6479f428a8888638dada8abeb2453f4544d57aed9604b4bb4163faded0f0023f", func := "aqueduct/aqueductlaw04.PrefixBack", spec := "prefixBack", unfollowed := true, recurses := true, apart := false }
def PrefixBackSaid : Prop := prefixBackRow.holds Try.pinned (OpenSpec.ofChange prefixBackSpec)

/-- ITS FALSE NEIGHBOUR: 'it returns false'. Refute it at one input. -/
def prefixBackWrong : ChangeSpec := { name := "prefixBack", fn := fun _ => fun
  | [d1, d2, d3, d4, d5, d6] => { results := [.lit (.bool false)], args := [d1, d2, d3, d4, d5, d6] }
  | _ => none }
def PrefixBackWrongFalsely : Prop := prefixBackRow.holds Try.pinned (OpenSpec.ofChange prefixBackWrong)

/- THE SECOND FORM. 'bulk': how many values and letters a reading holds, each counted each time it is reached (what is shared counts as often as it is met; a slice's spare places count too). A statement '..UptoSaid' is the law's where the arguments, and the package variables that the reading takes, are together of bulk at most 1048576: NARROWER than '..Said'. Prove '..Said' where nothing that the law and all that it calls make is longer than what came in: it says more and counts as full. Else prove '..UptoSaid'. A law counts once. -/
mutual
def uptoBulk {H : Type} : DataW H → Nat
  | .lit (.string bytes) => bytes.length + 1
  | .lit _ => 1
  | .nil => 1
  | .ptr d => uptoBulk d + 1
  | .slice elems spare => uptoBulkAll elems + uptoBulkAll spare + 1
  | .agg parts => uptoBulkAll parts + 1
  | .iface _ d => uptoBulk d + 1
  | .map entries => uptoBulkEntries entries + 1
  | .held _ => 1
def uptoBulkAll {H : Type} : List (DataW H) → Nat
  | [] => 0
  | d :: r => uptoBulk d + uptoBulkAll r
def uptoBulkEntries {H : Type} : List (Lit × DataW H) → Nat
  | [] => 0
  | x :: r => uptoBulkEntry x + uptoBulkEntries r
def uptoBulkEntry {H : Type} : Lit × DataW H → Nat
  | (.string bytes, d) => bytes.length + uptoBulk d + 1
  | (_, d) => uptoBulk d + 1
 end
def uptoSmall : (H : Type) → List (DataW H) → Bool := fun _ ds => decide (uptoBulkAll ds ≤ 1048576)
def OpenSpec.upto (s : _root_.Go.ChangeSpec) : _root_.Go.OpenSpec := { _root_.Go.OpenSpec.ofChange s with cond := some uptoSmall }

/-- 'aqueductlaw03.HuffCodes', WHERE WHAT IT READS IS OF BULK AT MOST 1048576: true; the input reads as it did. -/
def huffCodesUptoRow : OpenClaim := { program := "ytgpddhoidlpcaaa", sum := "6479f428a8888638dada8abeb2453f4544d57aed9604b4bb4163faded0f0023f", func := "aqueduct/aqueductlaw03.HuffCodes", spec := "huffCodes", apart := false, narrowed := true }
def HuffCodesUptoSaid : Prop := huffCodesUptoRow.holds Try.pinned (OpenSpec.upto huffCodesSpec)

/-- 'aqueductlaw03.HuffApart', WHERE WHAT IT READS IS OF BULK AT MOST 1048576: true; the input reads as it did. -/
def huffApartUptoRow : OpenClaim := { program := "ytgpddhoidlpcaaa", sum := "6479f428a8888638dada8abeb2453f4544d57aed9604b4bb4163faded0f0023f", func := "aqueduct/aqueductlaw03.HuffApart", spec := "huffApart", apart := false, narrowed := true }
def HuffApartUptoSaid : Prop := huffApartUptoRow.holds Try.pinned (OpenSpec.upto huffApartSpec)

/-- 'aqueductlaw03.HuffSizes', WHERE WHAT IT READS IS OF BULK AT MOST 1048576: true; the input reads as it did. -/
def huffSizesUptoRow : OpenClaim := { program := "ytgpddhoidlpcaaa", sum := "6479f428a8888638dada8abeb2453f4544d57aed9604b4bb4163faded0f0023f", func := "aqueduct/aqueductlaw03.HuffSizes", spec := "huffSizes", apart := false, narrowed := true }
def HuffSizesUptoSaid : Prop := huffSizesUptoRow.holds Try.pinned (OpenSpec.upto huffSizesSpec)

/-- 'aqueductlaw03.HuffEncodes', WHERE WHAT IT READS IS OF BULK AT MOST 1048576: true; the input reads as it did. -/
def huffEncodesUptoRow : OpenClaim := { program := "ytgpddhoidlpcaaa", sum := "6479f428a8888638dada8abeb2453f4544d57aed9604b4bb4163faded0f0023f", func := "aqueduct/aqueductlaw03.HuffEncodes", spec := "huffEncodes", unfollowed := true, recurses := true, apart := false, narrowed := true }
def HuffEncodesUptoSaid : Prop := huffEncodesUptoRow.holds Try.pinned (OpenSpec.upto huffEncodesSpec)

/-- 'aqueductlaw03.HuffDecodes', WHERE WHAT IT READS IS OF BULK AT MOST 1048576: true; the input reads as it did. -/
def huffDecodesUptoRow : OpenClaim := { program := "ytgpddhoidlpcaaa", sum := "6479f428a8888638dada8abeb2453f4544d57aed9604b4bb4163faded0f0023f", func := "aqueduct/aqueductlaw03.HuffDecodes", spec := "huffDecodes", unfollowed := true, recurses := true, apart := false, narrowed := true }
def HuffDecodesUptoSaid : Prop := huffDecodesUptoRow.holds Try.pinned (OpenSpec.upto huffDecodesSpec)

/-- 'aqueductlaw03.HuffBack', WHERE WHAT IT READS IS OF BULK AT MOST 1048576: true; the input reads as it did. -/
def huffBackUptoRow : OpenClaim := { program := "ytgpddhoidlpcaaa", sum := "6479f428a8888638dada8abeb2453f4544d57aed9604b4bb4163faded0f0023f", func := "aqueduct/aqueductlaw03.HuffBack", spec := "huffBack", unfollowed := true, recurses := true, apart := false, narrowed := true }
def HuffBackUptoSaid : Prop := huffBackUptoRow.holds Try.pinned (OpenSpec.upto huffBackSpec)

/-- 'aqueductlaw03.HuffPads', WHERE WHAT IT READS IS OF BULK AT MOST 1048576: true; the input reads as it did. -/
def huffPadsUptoRow : OpenClaim := { program := "ytgpddhoidlpcaaa", sum := "6479f428a8888638dada8abeb2453f4544d57aed9604b4bb4163faded0f0023f", func := "aqueduct/aqueductlaw03.HuffPads", spec := "huffPads", unfollowed := true, recurses := true, apart := false, narrowed := true }
def HuffPadsUptoSaid : Prop := huffPadsUptoRow.holds Try.pinned (OpenSpec.upto huffPadsSpec)

/-- 'aqueductlaw04.PrefixPuts', WHERE WHAT IT READS IS OF BULK AT MOST 1048576: true; the input reads as it did. -/
def prefixPutsUptoRow : OpenClaim := { program := "ytgpddhoidlpcaaa", sum := "6479f428a8888638dada8abeb2453f4544d57aed9604b4bb4163faded0f0023f", func := "aqueduct/aqueductlaw04.PrefixPuts", spec := "prefixPuts", apart := false, narrowed := true }
def PrefixPutsUptoSaid : Prop := prefixPutsUptoRow.holds Try.pinned (OpenSpec.upto prefixPutsSpec)

/-- 'aqueductlaw04.PrefixTexts', WHERE WHAT IT READS IS OF BULK AT MOST 1048576: true; the input reads as it did. -/
def prefixTextsUptoRow : OpenClaim := { program := "ytgpddhoidlpcaaa", sum := "6479f428a8888638dada8abeb2453f4544d57aed9604b4bb4163faded0f0023f", func := "aqueduct/aqueductlaw04.PrefixTexts", spec := "prefixTexts", unfollowed := true, recurses := true, apart := false, narrowed := true }
def PrefixTextsUptoSaid : Prop := prefixTextsUptoRow.holds Try.pinned (OpenSpec.upto prefixTextsSpec)

/-- 'aqueductlaw04.PrefixLeast', WHERE WHAT IT READS IS OF BULK AT MOST 1048576: true; the input reads as it did. -/
def prefixLeastUptoRow : OpenClaim := { program := "ytgpddhoidlpcaaa", sum := "6479f428a8888638dada8abeb2453f4544d57aed9604b4bb4163faded0f0023f", func := "aqueduct/aqueductlaw04.PrefixLeast", spec := "prefixLeast", unfollowed := true, recurses := true, apart := false, narrowed := true }
def PrefixLeastUptoSaid : Prop := prefixLeastUptoRow.holds Try.pinned (OpenSpec.upto prefixLeastSpec)

/-- 'aqueductlaw04.PrefixBack', WHERE WHAT IT READS IS OF BULK AT MOST 1048576: true; the input reads as it did. -/
def prefixBackUptoRow : OpenClaim := { program := "ytgpddhoidlpcaaa", sum := "6479f428a8888638dada8abeb2453f4544d57aed9604b4bb4163faded0f0023f", func := "aqueduct/aqueductlaw04.PrefixBack", spec := "prefixBack", unfollowed := true, recurses := true, apart := false, narrowed := true }
def PrefixBackUptoSaid : Prop := prefixBackUptoRow.holds Try.pinned (OpenSpec.upto prefixBackSpec)

end Rows
end Go.Proofs.Ytgpddhoidlpcaaa
