/-
  No cell of these rows narrows 'for every input' (looked for: loops, veiled, ifaces, maps, wideKeys, modest, calm, conditions, laid).
  DERIVED. THE GIVEN ROWS OF THIS SEAT. 6 by the template 'for every input the law returns true; each argument reads behind the call as it read before'; 0 by the template 'total and deterministic' (their statements: YtedoaofmdlcjeaaTotals.lean).
  GIVEN WITH THE SEED: the statements are not yours to turn. If you find one false, say at which input.
  Laid BY PROGRAM, IN A SANDBOX (cutbox-rows.mjs): the forced cells as the released guide's own fill.sh prints them over the translation dcaf287a0131de65… (all of the seat's roots in one cut). By AI agents, Wed Nov 11 2026. No macro, syntax, notation, axiom, sorry.
-/
import Derived.Test.YtedoaofmdlcjeaaChecked
import GoSem.Claim
import GoSem.ClaimJoined
import GoSem.ClaimMapViews
import Derived.JoinedTies
import Derived.KernelRfl
namespace Go.Proofs.Ytedoaofmdlcjeaa
/- THE CELL 'sum', in the pinned program and in every row, IS THE sha256 OF THE DUMP (.gsa) THAT YtedoaofmdlcjeaaProg.lean LOADS. Nothing in Lean hashes anything: it is a label: what it is worth is what the hold of that sum in a sandbox is worth. -/
noncomputable def Try.pinned : Pinned := { name := "ytedoaofmdlcjeaa", sum := "dcaf287a0131de6581d6afc1e14251cd0ff99fcd4f02dfdd66705bd9f99e9c23", checked := Try.checked }
namespace Rows
def none {H : Type} : Left H := { results := [], args := [] }

/-- 'aqueductlaw05.TableStatics': WHATEVER THE INPUT: true; the input reads as it did. -/
def tableStaticsSpec : ChangeSpec := { name := "tableStatics", fn := fun _ => fun
  | [d] => { results := [.lit (.bool true)], args := [d] }
  | _ => none }
def tableStaticsRow : OpenClaim := { program := "ytedoaofmdlcjeaa", sum := "dcaf287a0131de6581d6afc1e14251cd0ff99fcd4f02dfdd66705bd9f99e9c23", func := "aqueduct/aqueductlaw05.TableStatics", spec := "tableStatics", apart := false }
def TableStaticsSaid : Prop := tableStaticsRow.holds Try.pinned (OpenSpec.ofChange tableStaticsSpec)

/-- ITS FALSE NEIGHBOUR: 'it returns false'. Refute it at one input. -/
def tableStaticsWrong : ChangeSpec := { name := "tableStatics", fn := fun _ => fun
  | [d] => { results := [.lit (.bool false)], args := [d] }
  | _ => none }
def TableStaticsWrongFalsely : Prop := tableStaticsRow.holds Try.pinned (OpenSpec.ofChange tableStaticsWrong)

/-- 'aqueductlaw05.TableSizes': WHATEVER THE INPUT: true; the input reads as it did. -/
def tableSizesSpec : ChangeSpec := { name := "tableSizes", fn := fun _ => fun
  | [d] => { results := [.lit (.bool true)], args := [d] }
  | _ => none }
def tableSizesRow : OpenClaim := { program := "ytedoaofmdlcjeaa", sum := "dcaf287a0131de6581d6afc1e14251cd0ff99fcd4f02dfdd66705bd9f99e9c23", func := "aqueduct/aqueductlaw05.TableSizes", spec := "tableSizes", apart := false }
def TableSizesSaid : Prop := tableSizesRow.holds Try.pinned (OpenSpec.ofChange tableSizesSpec)

/-- ITS FALSE NEIGHBOUR: 'it returns false'. Refute it at one input. -/
def tableSizesWrong : ChangeSpec := { name := "tableSizes", fn := fun _ => fun
  | [d] => { results := [.lit (.bool false)], args := [d] }
  | _ => none }
def TableSizesWrongFalsely : Prop := tableSizesRow.holds Try.pinned (OpenSpec.ofChange tableSizesWrong)

/-- 'aqueductlaw05.TableFalls': WHATEVER THE INPUT: true; the input reads as it did. -/
def tableFallsSpec : ChangeSpec := { name := "tableFalls", fn := fun _ => fun
  | [d1, d2] => { results := [.lit (.bool true)], args := [d1, d2] }
  | _ => none }
def tableFallsRow : OpenClaim := { program := "ytedoaofmdlcjeaa", sum := "dcaf287a0131de6581d6afc1e14251cd0ff99fcd4f02dfdd66705bd9f99e9c23", func := "aqueduct/aqueductlaw05.TableFalls", spec := "tableFalls", apart := false }
def TableFallsSaid : Prop := tableFallsRow.holds Try.pinned (OpenSpec.ofChange tableFallsSpec)

/-- ITS FALSE NEIGHBOUR: 'it returns false'. Refute it at one input. -/
def tableFallsWrong : ChangeSpec := { name := "tableFalls", fn := fun _ => fun
  | [d1, d2] => { results := [.lit (.bool false)], args := [d1, d2] }
  | _ => none }
def TableFallsWrongFalsely : Prop := tableFallsRow.holds Try.pinned (OpenSpec.ofChange tableFallsWrong)

/-- 'aqueductlaw05.TableBound': WHATEVER THE INPUT: true; the input reads as it did. -/
def tableBoundSpec : ChangeSpec := { name := "tableBound", fn := fun _ => fun
  | [d1, d2] => { results := [.lit (.bool true)], args := [d1, d2] }
  | _ => none }
def tableBoundRow : OpenClaim := { program := "ytedoaofmdlcjeaa", sum := "dcaf287a0131de6581d6afc1e14251cd0ff99fcd4f02dfdd66705bd9f99e9c23", func := "aqueduct/aqueductlaw05.TableBound", spec := "tableBound", apart := false }
def TableBoundSaid : Prop := tableBoundRow.holds Try.pinned (OpenSpec.ofChange tableBoundSpec)

/-- ITS FALSE NEIGHBOUR: 'it returns false'. Refute it at one input. -/
def tableBoundWrong : ChangeSpec := { name := "tableBound", fn := fun _ => fun
  | [d1, d2] => { results := [.lit (.bool false)], args := [d1, d2] }
  | _ => none }
def TableBoundWrongFalsely : Prop := tableBoundRow.holds Try.pinned (OpenSpec.ofChange tableBoundWrong)

/-- 'aqueductlaw05.TableFinds': WHATEVER THE INPUT: true; the input reads as it did. -/
def tableFindsSpec : ChangeSpec := { name := "tableFinds", fn := fun _ => fun
  | [d1, d2] => { results := [.lit (.bool true)], args := [d1, d2] }
  | _ => none }
def tableFindsRow : OpenClaim := { program := "ytedoaofmdlcjeaa", sum := "dcaf287a0131de6581d6afc1e14251cd0ff99fcd4f02dfdd66705bd9f99e9c23", func := "aqueduct/aqueductlaw05.TableFinds", spec := "tableFinds", unfollowed := true, recurses := true, apart := false }
def TableFindsSaid : Prop := tableFindsRow.holds Try.pinned (OpenSpec.ofChange tableFindsSpec)

/-- ITS FALSE NEIGHBOUR: 'it returns false'. Refute it at one input. -/
def tableFindsWrong : ChangeSpec := { name := "tableFinds", fn := fun _ => fun
  | [d1, d2] => { results := [.lit (.bool false)], args := [d1, d2] }
  | _ => none }
def TableFindsWrongFalsely : Prop := tableFindsRow.holds Try.pinned (OpenSpec.ofChange tableFindsWrong)

/-- 'aqueductlaw05.TablePlays': WHATEVER THE INPUT: true; the input reads as it did. -/
def tablePlaysSpec : ChangeSpec := { name := "tablePlays", fn := fun _ => fun
  | [d1, d2] => { results := [.lit (.bool true)], args := [d1, d2] }
  | _ => none }
def tablePlaysRow : OpenClaim := { program := "ytedoaofmdlcjeaa", sum := "dcaf287a0131de6581d6afc1e14251cd0ff99fcd4f02dfdd66705bd9f99e9c23", func := "aqueduct/aqueductlaw05.TablePlays", spec := "tablePlays", unfollowed := true, recurses := true, apart := false }
def TablePlaysSaid : Prop := tablePlaysRow.holds Try.pinned (OpenSpec.ofChange tablePlaysSpec)

/-- ITS FALSE NEIGHBOUR: 'it returns false'. Refute it at one input. -/
def tablePlaysWrong : ChangeSpec := { name := "tablePlays", fn := fun _ => fun
  | [d1, d2] => { results := [.lit (.bool false)], args := [d1, d2] }
  | _ => none }
def TablePlaysWrongFalsely : Prop := tablePlaysRow.holds Try.pinned (OpenSpec.ofChange tablePlaysWrong)

/- THE SECOND FORM. 'bulk': how many values and letters a reading holds, each counted each time it is reached (what is shared counts as often as it is met; a slice's spare places count too). A statement '..UptoSaid' is the law's where the arguments, and the package variables that the reading takes, are together of bulk at most 1048576: NARROWER than '..Said'. Prove '..Said' where nothing that the law and all that it calls make is longer than what came in: it says more and counts as full. Else prove '..UptoSaid'. A law counts once. -/
mutual
def uptoBulk {H : Type} : DataW H → Nat
  | .lit (.string bytes) => bytes.length + 1
  | .lit _ => 1
  | .nil => 1
  | .ptr d => uptoBulk d + 1
  | .slice elems spare => uptoBulkAll elems + uptoBulkAll spare + 1
  | .agg parts => uptoBulkAll parts + 1
  | .iface _ d => uptoBulk d + 1
  | .map entries => uptoBulkEntries entries + 1
  | .held _ => 1
def uptoBulkAll {H : Type} : List (DataW H) → Nat
  | [] => 0
  | d :: r => uptoBulk d + uptoBulkAll r
def uptoBulkEntries {H : Type} : List (Lit × DataW H) → Nat
  | [] => 0
  | x :: r => uptoBulkEntry x + uptoBulkEntries r
def uptoBulkEntry {H : Type} : Lit × DataW H → Nat
  | (.string bytes, d) => bytes.length + uptoBulk d + 1
  | (_, d) => uptoBulk d + 1
 end
def uptoSmall : (H : Type) → List (DataW H) → Bool := fun _ ds => decide (uptoBulkAll ds ≤ 1048576)
def OpenSpec.upto (s : _root_.Go.ChangeSpec) : _root_.Go.OpenSpec := { _root_.Go.OpenSpec.ofChange s with cond := some uptoSmall }

/-- 'aqueductlaw05.TableStatics', WHERE WHAT IT READS IS OF BULK AT MOST 1048576: true; the input reads as it did. -/
def tableStaticsUptoRow : OpenClaim := { program := "ytedoaofmdlcjeaa", sum := "dcaf287a0131de6581d6afc1e14251cd0ff99fcd4f02dfdd66705bd9f99e9c23", func := "aqueduct/aqueductlaw05.TableStatics", spec := "tableStatics", apart := false, narrowed := true }
def TableStaticsUptoSaid : Prop := tableStaticsUptoRow.holds Try.pinned (OpenSpec.upto tableStaticsSpec)

/-- 'aqueductlaw05.TableSizes', WHERE WHAT IT READS IS OF BULK AT MOST 1048576: true; the input reads as it did. -/
def tableSizesUptoRow : OpenClaim := { program := "ytedoaofmdlcjeaa", sum := "dcaf287a0131de6581d6afc1e14251cd0ff99fcd4f02dfdd66705bd9f99e9c23", func := "aqueduct/aqueductlaw05.TableSizes", spec := "tableSizes", apart := false, narrowed := true }
def TableSizesUptoSaid : Prop := tableSizesUptoRow.holds Try.pinned (OpenSpec.upto tableSizesSpec)

/-- 'aqueductlaw05.TableFalls', WHERE WHAT IT READS IS OF BULK AT MOST 1048576: true; the input reads as it did. -/
def tableFallsUptoRow : OpenClaim := { program := "ytedoaofmdlcjeaa", sum := "dcaf287a0131de6581d6afc1e14251cd0ff99fcd4f02dfdd66705bd9f99e9c23", func := "aqueduct/aqueductlaw05.TableFalls", spec := "tableFalls", apart := false, narrowed := true }
def TableFallsUptoSaid : Prop := tableFallsUptoRow.holds Try.pinned (OpenSpec.upto tableFallsSpec)

/-- 'aqueductlaw05.TableBound', WHERE WHAT IT READS IS OF BULK AT MOST 1048576: true; the input reads as it did. -/
def tableBoundUptoRow : OpenClaim := { program := "ytedoaofmdlcjeaa", sum := "dcaf287a0131de6581d6afc1e14251cd0ff99fcd4f02dfdd66705bd9f99e9c23", func := "aqueduct/aqueductlaw05.TableBound", spec := "tableBound", apart := false, narrowed := true }
def TableBoundUptoSaid : Prop := tableBoundUptoRow.holds Try.pinned (OpenSpec.upto tableBoundSpec)

/-- 'aqueductlaw05.TableFinds', WHERE WHAT IT READS IS OF BULK AT MOST 1048576: true; the input reads as it did. -/
def tableFindsUptoRow : OpenClaim := { program := "ytedoaofmdlcjeaa", sum := "dcaf287a0131de6581d6afc1e14251cd0ff99fcd4f02dfdd66705bd9f99e9c23", func := "aqueduct/aqueductlaw05.TableFinds", spec := "tableFinds", unfollowed := true, recurses := true, apart := false, narrowed := true }
def TableFindsUptoSaid : Prop := tableFindsUptoRow.holds Try.pinned (OpenSpec.upto tableFindsSpec)

/-- 'aqueductlaw05.TablePlays', WHERE WHAT IT READS IS OF BULK AT MOST 1048576: true; the input reads as it did. -/
def tablePlaysUptoRow : OpenClaim := { program := "ytedoaofmdlcjeaa", sum := "dcaf287a0131de6581d6afc1e14251cd0ff99fcd4f02dfdd66705bd9f99e9c23", func := "aqueduct/aqueductlaw05.TablePlays", spec := "tablePlays", unfollowed := true, recurses := true, apart := false, narrowed := true }
def TablePlaysUptoSaid : Prop := tablePlaysUptoRow.holds Try.pinned (OpenSpec.upto tablePlaysSpec)

end Rows
end Go.Proofs.Ytedoaofmdlcjeaa
