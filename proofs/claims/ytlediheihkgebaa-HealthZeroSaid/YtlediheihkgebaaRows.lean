/-
  No cell of these rows narrows 'for every input' (looked for: loops, veiled, ifaces, maps, wideKeys, modest, calm, conditions, laid).
  DERIVED. THE GIVEN ROWS OF THIS SEAT. 10 by the template 'for every input the law returns true; each argument reads behind the call as it read before'; 0 by the template 'total and deterministic' (their statements: YtlediheihkgebaaTotals.lean).
  GIVEN WITH THE SEED: the statements are not yours to turn. If you find one false, say at which input.
  Laid BY PROGRAM, IN A SANDBOX (cutbox-rows.mjs): the forced cells as the released guide's own fill.sh prints them over the translation 594304f79d915f66… (all of the seat's roots in one cut). By AI agents, Wed Nov 11 2026. No macro, syntax, notation, axiom, sorry.
-/
import Derived.Test.YtlediheihkgebaaChecked
import GoSem.Claim
import GoSem.ClaimJoined
import GoSem.ClaimMapViews
import Derived.JoinedTies
import Derived.KernelRfl
namespace Go.Proofs.Ytlediheihkgebaa
/- THE CELL 'sum', in the pinned program and in every row, IS THE sha256 OF THE DUMP (.gsa) THAT YtlediheihkgebaaProg.lean LOADS. Nothing in Lean hashes anything: it is a label: what it is worth is what the hold of that sum in a sandbox is worth. -/
noncomputable def Try.pinned : Pinned := { name := "ytlediheihkgebaa", sum := "594304f79d915f66573bed25c181f21ecc64ba2ab8965b5d20772ea477984f87", checked := Try.checked }
namespace Rows
def none {H : Type} : Left H := { results := [], args := [] }

/-- 'aqueductlaw18.PickFits': WHATEVER THE INPUT: true; the input reads as it did. -/
def pickFitsSpec : ChangeSpec := { name := "pickFits", fn := fun _ => fun
  | [d] => { results := [.lit (.bool true)], args := [d] }
  | _ => none }
def pickFitsRow : OpenClaim := { program := "ytlediheihkgebaa", sum := "594304f79d915f66573bed25c181f21ecc64ba2ab8965b5d20772ea477984f87", func := "aqueduct/aqueductlaw18.PickFits", spec := "pickFits", unfollowed := true, recurses := true, apart := false }
def PickFitsSaid : Prop := pickFitsRow.holds Try.pinned (OpenSpec.ofChange pickFitsSpec)

/-- ITS FALSE NEIGHBOUR: 'it returns false'. Refute it at one input. -/
def pickFitsWrong : ChangeSpec := { name := "pickFits", fn := fun _ => fun
  | [d] => { results := [.lit (.bool false)], args := [d] }
  | _ => none }
def PickFitsWrongFalsely : Prop := pickFitsRow.holds Try.pinned (OpenSpec.ofChange pickFitsWrong)

/-- 'aqueductlaw18.PickTies': WHATEVER THE INPUT: true; the input reads as it did. -/
def pickTiesSpec : ChangeSpec := { name := "pickTies", fn := fun _ => fun
  | [d] => { results := [.lit (.bool true)], args := [d] }
  | _ => none }
def pickTiesRow : OpenClaim := { program := "ytlediheihkgebaa", sum := "594304f79d915f66573bed25c181f21ecc64ba2ab8965b5d20772ea477984f87", func := "aqueduct/aqueductlaw18.PickTies", spec := "pickTies", unfollowed := true, recurses := true, apart := false }
def PickTiesSaid : Prop := pickTiesRow.holds Try.pinned (OpenSpec.ofChange pickTiesSpec)

/-- ITS FALSE NEIGHBOUR: 'it returns false'. Refute it at one input. -/
def pickTiesWrong : ChangeSpec := { name := "pickTies", fn := fun _ => fun
  | [d] => { results := [.lit (.bool false)], args := [d] }
  | _ => none }
def PickTiesWrongFalsely : Prop := pickTiesRow.holds Try.pinned (OpenSpec.ofChange pickTiesWrong)

/-- 'aqueductlaw18.PickChooses': WHATEVER THE INPUT: true; the input reads as it did. -/
def pickChoosesSpec : ChangeSpec := { name := "pickChooses", fn := fun _ => fun
  | [d1, d2] => { results := [.lit (.bool true)], args := [d1, d2] }
  | _ => none }
def pickChoosesRow : OpenClaim := { program := "ytlediheihkgebaa", sum := "594304f79d915f66573bed25c181f21ecc64ba2ab8965b5d20772ea477984f87", func := "aqueduct/aqueductlaw18.PickChooses", spec := "pickChooses", unfollowed := true, recurses := true, apart := false }
def PickChoosesSaid : Prop := pickChoosesRow.holds Try.pinned (OpenSpec.ofChange pickChoosesSpec)

/-- ITS FALSE NEIGHBOUR: 'it returns false'. Refute it at one input. -/
def pickChoosesWrong : ChangeSpec := { name := "pickChooses", fn := fun _ => fun
  | [d1, d2] => { results := [.lit (.bool false)], args := [d1, d2] }
  | _ => none }
def PickChoosesWrongFalsely : Prop := pickChoosesRow.holds Try.pinned (OpenSpec.ofChange pickChoosesWrong)

/-- 'aqueductlaw18.PickLeast': WHATEVER THE INPUT: true; the input reads as it did. -/
def pickLeastSpec : ChangeSpec := { name := "pickLeast", fn := fun _ => fun
  | [d1, d2] => { results := [.lit (.bool true)], args := [d1, d2] }
  | _ => none }
def pickLeastRow : OpenClaim := { program := "ytlediheihkgebaa", sum := "594304f79d915f66573bed25c181f21ecc64ba2ab8965b5d20772ea477984f87", func := "aqueduct/aqueductlaw18.PickLeast", spec := "pickLeast", unfollowed := true, recurses := true, apart := false }
def PickLeastSaid : Prop := pickLeastRow.holds Try.pinned (OpenSpec.ofChange pickLeastSpec)

/-- ITS FALSE NEIGHBOUR: 'it returns false'. Refute it at one input. -/
def pickLeastWrong : ChangeSpec := { name := "pickLeast", fn := fun _ => fun
  | [d1, d2] => { results := [.lit (.bool false)], args := [d1, d2] }
  | _ => none }
def PickLeastWrongFalsely : Prop := pickLeastRow.holds Try.pinned (OpenSpec.ofChange pickLeastWrong)

/-- 'aqueductlaw18.PickDraws': WHATEVER THE INPUT: true; the input reads as it did. -/
def pickDrawsSpec : ChangeSpec := { name := "pickDraws", fn := fun _ => fun
  | [d1, d2] => { results := [.lit (.bool true)], args := [d1, d2] }
  | _ => none }
def pickDrawsRow : OpenClaim := { program := "ytlediheihkgebaa", sum := "594304f79d915f66573bed25c181f21ecc64ba2ab8965b5d20772ea477984f87", func := "aqueduct/aqueductlaw18.PickDraws", spec := "pickDraws", unfollowed := true, recurses := true, apart := false }
def PickDrawsSaid : Prop := pickDrawsRow.holds Try.pinned (OpenSpec.ofChange pickDrawsSpec)

/-- ITS FALSE NEIGHBOUR: 'it returns false'. Refute it at one input. -/
def pickDrawsWrong : ChangeSpec := { name := "pickDraws", fn := fun _ => fun
  | [d1, d2] => { results := [.lit (.bool false)], args := [d1, d2] }
  | _ => none }
def PickDrawsWrongFalsely : Prop := pickDrawsRow.holds Try.pinned (OpenSpec.ofChange pickDrawsWrong)

/-- 'aqueductlaw17.HealthTurns': WHATEVER THE INPUT: true; the input reads as it did. -/
def healthTurnsSpec : ChangeSpec := { name := "healthTurns", fn := fun _ => fun
  | [d1, d2] => { results := [.lit (.bool true)], args := [d1, d2] }
  | _ => none }
def healthTurnsRow : OpenClaim := { program := "ytlediheihkgebaa", sum := "594304f79d915f66573bed25c181f21ecc64ba2ab8965b5d20772ea477984f87", func := "aqueduct/aqueductlaw17.HealthTurns", spec := "healthTurns", apart := false }
def HealthTurnsSaid : Prop := healthTurnsRow.holds Try.pinned (OpenSpec.ofChange healthTurnsSpec)

/-- ITS FALSE NEIGHBOUR: 'it returns false'. Refute it at one input. -/
def healthTurnsWrong : ChangeSpec := { name := "healthTurns", fn := fun _ => fun
  | [d1, d2] => { results := [.lit (.bool false)], args := [d1, d2] }
  | _ => none }
def HealthTurnsWrongFalsely : Prop := healthTurnsRow.holds Try.pinned (OpenSpec.ofChange healthTurnsWrong)

/-- 'aqueductlaw17.HealthZero': WHATEVER THE INPUT: true; the input reads as it did. -/
def healthZeroSpec : ChangeSpec := { name := "healthZero", fn := fun _ => fun
  | [d] => { results := [.lit (.bool true)], args := [d] }
  | _ => none }
def healthZeroRow : OpenClaim := { program := "ytlediheihkgebaa", sum := "594304f79d915f66573bed25c181f21ecc64ba2ab8965b5d20772ea477984f87", func := "aqueduct/aqueductlaw17.HealthZero", spec := "healthZero", apart := false }
def HealthZeroSaid : Prop := healthZeroRow.holds Try.pinned (OpenSpec.ofChange healthZeroSpec)

/-- ITS FALSE NEIGHBOUR: 'it returns false'. Refute it at one input. -/
def healthZeroWrong : ChangeSpec := { name := "healthZero", fn := fun _ => fun
  | [d] => { results := [.lit (.bool false)], args := [d] }
  | _ => none }
def HealthZeroWrongFalsely : Prop := healthZeroRow.holds Try.pinned (OpenSpec.ofChange healthZeroWrong)

/-- 'aqueductlaw17.HealthHolds': WHATEVER THE INPUT: true; the input reads as it did. -/
def healthHoldsSpec : ChangeSpec := { name := "healthHolds", fn := fun _ => fun
  | [d1, d2, d3, d4] => { results := [.lit (.bool true)], args := [d1, d2, d3, d4] }
  | _ => none }
def healthHoldsRow : OpenClaim := { program := "ytlediheihkgebaa", sum := "594304f79d915f66573bed25c181f21ecc64ba2ab8965b5d20772ea477984f87", func := "aqueduct/aqueductlaw17.HealthHolds", spec := "healthHolds", apart := false }
def HealthHoldsSaid : Prop := healthHoldsRow.holds Try.pinned (OpenSpec.ofChange healthHoldsSpec)

/-- ITS FALSE NEIGHBOUR: 'it returns false'. Refute it at one input. -/
def healthHoldsWrong : ChangeSpec := { name := "healthHolds", fn := fun _ => fun
  | [d1, d2, d3, d4] => { results := [.lit (.bool false)], args := [d1, d2, d3, d4] }
  | _ => none }
def HealthHoldsWrongFalsely : Prop := healthHoldsRow.holds Try.pinned (OpenSpec.ofChange healthHoldsWrong)

/-- 'aqueductlaw17.HealthPlays': WHATEVER THE INPUT: true; the input reads as it did. -/
def healthPlaysSpec : ChangeSpec := { name := "healthPlays", fn := fun _ => fun
  | [d1, d2] => { results := [.lit (.bool true)], args := [d1, d2] }
  | _ => none }
def healthPlaysRow : OpenClaim := { program := "ytlediheihkgebaa", sum := "594304f79d915f66573bed25c181f21ecc64ba2ab8965b5d20772ea477984f87", func := "aqueduct/aqueductlaw17.HealthPlays", spec := "healthPlays", apart := false }
def HealthPlaysSaid : Prop := healthPlaysRow.holds Try.pinned (OpenSpec.ofChange healthPlaysSpec)

/-- ITS FALSE NEIGHBOUR: 'it returns false'. Refute it at one input. -/
def healthPlaysWrong : ChangeSpec := { name := "healthPlays", fn := fun _ => fun
  | [d1, d2] => { results := [.lit (.bool false)], args := [d1, d2] }
  | _ => none }
def HealthPlaysWrongFalsely : Prop := healthPlaysRow.holds Try.pinned (OpenSpec.ofChange healthPlaysWrong)

/-- 'aqueductlaw17.HealthFolds': WHATEVER THE INPUT: true; the input reads as it did. -/
def healthFoldsSpec : ChangeSpec := { name := "healthFolds", fn := fun _ => fun
  | [d1, d2] => { results := [.lit (.bool true)], args := [d1, d2] }
  | _ => none }
def healthFoldsRow : OpenClaim := { program := "ytlediheihkgebaa", sum := "594304f79d915f66573bed25c181f21ecc64ba2ab8965b5d20772ea477984f87", func := "aqueduct/aqueductlaw17.HealthFolds", spec := "healthFolds", unfollowed := true, recurses := true, apart := false }
def HealthFoldsSaid : Prop := healthFoldsRow.holds Try.pinned (OpenSpec.ofChange healthFoldsSpec)

/-- ITS FALSE NEIGHBOUR: 'it returns false'. Refute it at one input. -/
def healthFoldsWrong : ChangeSpec := { name := "healthFolds", fn := fun _ => fun
  | [d1, d2] => { results := [.lit (.bool false)], args := [d1, d2] }
  | _ => none }
def HealthFoldsWrongFalsely : Prop := healthFoldsRow.holds Try.pinned (OpenSpec.ofChange healthFoldsWrong)

/- THE SECOND FORM. 'bulk': how many values and letters a reading holds, each counted each time it is reached (what is shared counts as often as it is met; a slice's spare places count too). A statement '..UptoSaid' is the law's where the arguments, and the package variables that the reading takes, are together of bulk at most 1048576: NARROWER than '..Said'. Prove '..Said' where nothing that the law and all that it calls make is longer than what came in: it says more and counts as full. Else prove '..UptoSaid'. A law counts once. -/
mutual
def uptoBulk {H : Type} : DataW H → Nat
  | .lit (.string bytes) => bytes.length + 1
  | .lit _ => 1
  | .nil => 1
  | .ptr d => uptoBulk d + 1
  | .slice elems spare => uptoBulkAll elems + uptoBulkAll spare + 1
  | .agg parts => uptoBulkAll parts + 1
  | .iface _ d => uptoBulk d + 1
  | .map entries => uptoBulkEntries entries + 1
  | .held _ => 1
def uptoBulkAll {H : Type} : List (DataW H) → Nat
  | [] => 0
  | d :: r => uptoBulk d + uptoBulkAll r
def uptoBulkEntries {H : Type} : List (Lit × DataW H) → Nat
  | [] => 0
  | x :: r => uptoBulkEntry x + uptoBulkEntries r
def uptoBulkEntry {H : Type} : Lit × DataW H → Nat
  | (.string bytes, d) => bytes.length + uptoBulk d + 1
  | (_, d) => uptoBulk d + 1
 end
def uptoSmall : (H : Type) → List (DataW H) → Bool := fun _ ds => decide (uptoBulkAll ds ≤ 1048576)
def OpenSpec.upto (s : _root_.Go.ChangeSpec) : _root_.Go.OpenSpec := { _root_.Go.OpenSpec.ofChange s with cond := some uptoSmall }

/-- 'aqueductlaw18.PickFits', WHERE WHAT IT READS IS OF BULK AT MOST 1048576: true; the input reads as it did. -/
def pickFitsUptoRow : OpenClaim := { program := "ytlediheihkgebaa", sum := "594304f79d915f66573bed25c181f21ecc64ba2ab8965b5d20772ea477984f87", func := "aqueduct/aqueductlaw18.PickFits", spec := "pickFits", unfollowed := true, recurses := true, apart := false, narrowed := true }
def PickFitsUptoSaid : Prop := pickFitsUptoRow.holds Try.pinned (OpenSpec.upto pickFitsSpec)

/-- 'aqueductlaw18.PickTies', WHERE WHAT IT READS IS OF BULK AT MOST 1048576: true; the input reads as it did. -/
def pickTiesUptoRow : OpenClaim := { program := "ytlediheihkgebaa", sum := "594304f79d915f66573bed25c181f21ecc64ba2ab8965b5d20772ea477984f87", func := "aqueduct/aqueductlaw18.PickTies", spec := "pickTies", unfollowed := true, recurses := true, apart := false, narrowed := true }
def PickTiesUptoSaid : Prop := pickTiesUptoRow.holds Try.pinned (OpenSpec.upto pickTiesSpec)

/-- 'aqueductlaw18.PickChooses', WHERE WHAT IT READS IS OF BULK AT MOST 1048576: true; the input reads as it did. -/
def pickChoosesUptoRow : OpenClaim := { program := "ytlediheihkgebaa", sum := "594304f79d915f66573bed25c181f21ecc64ba2ab8965b5d20772ea477984f87", func := "aqueduct/aqueductlaw18.PickChooses", spec := "pickChooses", unfollowed := true, recurses := true, apart := false, narrowed := true }
def PickChoosesUptoSaid : Prop := pickChoosesUptoRow.holds Try.pinned (OpenSpec.upto pickChoosesSpec)

/-- 'aqueductlaw18.PickLeast', WHERE WHAT IT READS IS OF BULK AT MOST 1048576: true; the input reads as it did. -/
def pickLeastUptoRow : OpenClaim := { program := "ytlediheihkgebaa", sum := "594304f79d915f66573bed25c181f21ecc64ba2ab8965b5d20772ea477984f87", func := "aqueduct/aqueductlaw18.PickLeast", spec := "pickLeast", unfollowed := true, recurses := true, apart := false, narrowed := true }
def PickLeastUptoSaid : Prop := pickLeastUptoRow.holds Try.pinned (OpenSpec.upto pickLeastSpec)

/-- 'aqueductlaw18.PickDraws', WHERE WHAT IT READS IS OF BULK AT MOST 1048576: true; the input reads as it did. -/
def pickDrawsUptoRow : OpenClaim := { program := "ytlediheihkgebaa", sum := "594304f79d915f66573bed25c181f21ecc64ba2ab8965b5d20772ea477984f87", func := "aqueduct/aqueductlaw18.PickDraws", spec := "pickDraws", unfollowed := true, recurses := true, apart := false, narrowed := true }
def PickDrawsUptoSaid : Prop := pickDrawsUptoRow.holds Try.pinned (OpenSpec.upto pickDrawsSpec)

/-- 'aqueductlaw17.HealthTurns', WHERE WHAT IT READS IS OF BULK AT MOST 1048576: true; the input reads as it did. -/
def healthTurnsUptoRow : OpenClaim := { program := "ytlediheihkgebaa", sum := "594304f79d915f66573bed25c181f21ecc64ba2ab8965b5d20772ea477984f87", func := "aqueduct/aqueductlaw17.HealthTurns", spec := "healthTurns", apart := false, narrowed := true }
def HealthTurnsUptoSaid : Prop := healthTurnsUptoRow.holds Try.pinned (OpenSpec.upto healthTurnsSpec)

/-- 'aqueductlaw17.HealthZero', WHERE WHAT IT READS IS OF BULK AT MOST 1048576: true; the input reads as it did. -/
def healthZeroUptoRow : OpenClaim := { program := "ytlediheihkgebaa", sum := "594304f79d915f66573bed25c181f21ecc64ba2ab8965b5d20772ea477984f87", func := "aqueduct/aqueductlaw17.HealthZero", spec := "healthZero", apart := false, narrowed := true }
def HealthZeroUptoSaid : Prop := healthZeroUptoRow.holds Try.pinned (OpenSpec.upto healthZeroSpec)

/-- 'aqueductlaw17.HealthHolds', WHERE WHAT IT READS IS OF BULK AT MOST 1048576: true; the input reads as it did. -/
def healthHoldsUptoRow : OpenClaim := { program := "ytlediheihkgebaa", sum := "594304f79d915f66573bed25c181f21ecc64ba2ab8965b5d20772ea477984f87", func := "aqueduct/aqueductlaw17.HealthHolds", spec := "healthHolds", apart := false, narrowed := true }
def HealthHoldsUptoSaid : Prop := healthHoldsUptoRow.holds Try.pinned (OpenSpec.upto healthHoldsSpec)

/-- 'aqueductlaw17.HealthPlays', WHERE WHAT IT READS IS OF BULK AT MOST 1048576: true; the input reads as it did. -/
def healthPlaysUptoRow : OpenClaim := { program := "ytlediheihkgebaa", sum := "594304f79d915f66573bed25c181f21ecc64ba2ab8965b5d20772ea477984f87", func := "aqueduct/aqueductlaw17.HealthPlays", spec := "healthPlays", apart := false, narrowed := true }
def HealthPlaysUptoSaid : Prop := healthPlaysUptoRow.holds Try.pinned (OpenSpec.upto healthPlaysSpec)

/-- 'aqueductlaw17.HealthFolds', WHERE WHAT IT READS IS OF BULK AT MOST 1048576: true; the input reads as it did. -/
def healthFoldsUptoRow : OpenClaim := { program := "ytlediheihkgebaa", sum := "594304f79d915f66573bed25c181f21ecc64ba2ab8965b5d20772ea477984f87", func := "aqueduct/aqueductlaw17.HealthFolds", spec := "healthFolds", unfollowed := true, recurses := true, apart := false, narrowed := true }
def HealthFoldsUptoSaid : Prop := healthFoldsUptoRow.holds Try.pinned (OpenSpec.upto healthFoldsSpec)

end Rows
end Go.Proofs.Ytlediheihkgebaa
