/-
  No cell of these rows narrows 'for every input' (looked for: loops, veiled, ifaces, maps, wideKeys, modest, calm, conditions, laid).
  DERIVED. THE GIVEN ROWS OF THIS SEAT. 12 by the template 'for every input the law returns true; each argument reads behind the call as it read before'; 0 by the template 'total and deterministic' (their statements: YtlgeeibaohdjhaaTotals.lean).
  GIVEN WITH THE SEED: the statements are not yours to turn. If you find one false, say at which input.
  Laid BY PROGRAM, IN A SANDBOX (cutbox-rows.mjs): the forced cells as the released guide's own fill.sh prints them over the translation 5987c7ad707dfe8b… (all of the seat's roots in one cut). By AI agents, Wed Nov 11 2026. No macro, syntax, notation, axiom, sorry.
-/
import Derived.Test.YtlgeeibaohdjhaaChecked
import GoSem.Claim
import GoSem.ClaimJoined
import GoSem.ClaimMapViews
import Derived.JoinedTies
import Derived.KernelRfl
namespace Go.Proofs.Ytlgeeibaohdjhaa
/- THE CELL 'sum', in the pinned program and in every row, IS THE sha256 OF THE DUMP (.gsa) THAT YtlgeeibaohdjhaaProg.lean LOADS. Nothing in Lean hashes anything: it is a label: what it is worth is what the hold of that sum in a sandbox is worth. -/
noncomputable def Try.pinned : Pinned := { name := "ytlgeeibaohdjhaa", sum := "5987c7ad707dfe8b40aaaa43401e934d498e713d44d9fffcd7ddd187780dc507", checked := Try.checked }
namespace Rows
def none {H : Type} : Left H := { results := [], args := [] }

/-- 'aqueductlaw09.SettingChecks': WHATEVER THE INPUT: true; the input reads as it did. -/
def settingChecksSpec : ChangeSpec := { name := "settingChecks", fn := fun _ => fun
  | [d] => { results := [.lit (.bool true)], args := [d] }
  | _ => none }
def settingChecksRow : OpenClaim := { program := "ytlgeeibaohdjhaa", sum := "5987c7ad707dfe8b40aaaa43401e934d498e713d44d9fffcd7ddd187780dc507", func := "aqueduct/aqueductlaw09.SettingChecks", spec := "settingChecks", unfollowed := true, recurses := true, apart := false }
def SettingChecksSaid : Prop := settingChecksRow.holds Try.pinned (OpenSpec.ofChange settingChecksSpec)

/-- ITS FALSE NEIGHBOUR: 'it returns false'. Refute it at one input. -/
def settingChecksWrong : ChangeSpec := { name := "settingChecks", fn := fun _ => fun
  | [d] => { results := [.lit (.bool false)], args := [d] }
  | _ => none }
def SettingChecksWrongFalsely : Prop := settingChecksRow.holds Try.pinned (OpenSpec.ofChange settingChecksWrong)

/-- 'aqueductlaw09.SettingValues': WHATEVER THE INPUT: true; the input reads as it did. -/
def settingValuesSpec : ChangeSpec := { name := "settingValues", fn := fun _ => fun
  | [d] => { results := [.lit (.bool true)], args := [d] }
  | _ => none }
def settingValuesRow : OpenClaim := { program := "ytlgeeibaohdjhaa", sum := "5987c7ad707dfe8b40aaaa43401e934d498e713d44d9fffcd7ddd187780dc507", func := "aqueduct/aqueductlaw09.SettingValues", spec := "settingValues", unfollowed := true, recurses := true, apart := false }
def SettingValuesSaid : Prop := settingValuesRow.holds Try.pinned (OpenSpec.ofChange settingValuesSpec)

/-- ITS FALSE NEIGHBOUR: 'it returns false'. Refute it at one input. -/
def settingValuesWrong : ChangeSpec := { name := "settingValues", fn := fun _ => fun
  | [d] => { results := [.lit (.bool false)], args := [d] }
  | _ => none }
def SettingValuesWrongFalsely : Prop := settingValuesRow.holds Try.pinned (OpenSpec.ofChange settingValuesWrong)

/-- 'aqueductlaw09.SettingParts': WHATEVER THE INPUT: true; the input reads as it did. -/
def settingPartsSpec : ChangeSpec := { name := "settingParts", fn := fun _ => fun
  | [d] => { results := [.lit (.bool true)], args := [d] }
  | _ => none }
def settingPartsRow : OpenClaim := { program := "ytlgeeibaohdjhaa", sum := "5987c7ad707dfe8b40aaaa43401e934d498e713d44d9fffcd7ddd187780dc507", func := "aqueduct/aqueductlaw09.SettingParts", spec := "settingParts", unfollowed := true, recurses := true, apart := false }
def SettingPartsSaid : Prop := settingPartsRow.holds Try.pinned (OpenSpec.ofChange settingPartsSpec)

/-- ITS FALSE NEIGHBOUR: 'it returns false'. Refute it at one input. -/
def settingPartsWrong : ChangeSpec := { name := "settingParts", fn := fun _ => fun
  | [d] => { results := [.lit (.bool false)], args := [d] }
  | _ => none }
def SettingPartsWrongFalsely : Prop := settingPartsRow.holds Try.pinned (OpenSpec.ofChange settingPartsWrong)

/-- 'aqueductlaw09.SettingAcks': WHATEVER THE INPUT: true; the input reads as it did. -/
def settingAcksSpec : ChangeSpec := { name := "settingAcks", fn := fun _ => fun
  | [d] => { results := [.lit (.bool true)], args := [d] }
  | _ => none }
def settingAcksRow : OpenClaim := { program := "ytlgeeibaohdjhaa", sum := "5987c7ad707dfe8b40aaaa43401e934d498e713d44d9fffcd7ddd187780dc507", func := "aqueduct/aqueductlaw09.SettingAcks", spec := "settingAcks", unfollowed := true, recurses := true, apart := false }
def SettingAcksSaid : Prop := settingAcksRow.holds Try.pinned (OpenSpec.ofChange settingAcksSpec)

/-- ITS FALSE NEIGHBOUR: 'it returns false'. Refute it at one input. -/
def settingAcksWrong : ChangeSpec := { name := "settingAcks", fn := fun _ => fun
  | [d] => { results := [.lit (.bool false)], args := [d] }
  | _ => none }
def SettingAcksWrongFalsely : Prop := settingAcksRow.holds Try.pinned (OpenSpec.ofChange settingAcksWrong)

/-- 'aqueductlaw09.SettingZero': WHATEVER THE INPUT: true; the input reads as it did. -/
def settingZeroSpec : ChangeSpec := { name := "settingZero", fn := fun _ => fun
  | [d1, d2] => { results := [.lit (.bool true)], args := [d1, d2] }
  | _ => none }
def settingZeroRow : OpenClaim := { program := "ytlgeeibaohdjhaa", sum := "5987c7ad707dfe8b40aaaa43401e934d498e713d44d9fffcd7ddd187780dc507", func := "aqueduct/aqueductlaw09.SettingZero", spec := "settingZero", unfollowed := true, recurses := true, apart := false }
def SettingZeroSaid : Prop := settingZeroRow.holds Try.pinned (OpenSpec.ofChange settingZeroSpec)

/-- ITS FALSE NEIGHBOUR: 'it returns false'. Refute it at one input. -/
def settingZeroWrong : ChangeSpec := { name := "settingZero", fn := fun _ => fun
  | [d1, d2] => { results := [.lit (.bool false)], args := [d1, d2] }
  | _ => none }
def SettingZeroWrongFalsely : Prop := settingZeroRow.holds Try.pinned (OpenSpec.ofChange settingZeroWrong)

/-- 'aqueductlaw09.SettingPlays': WHATEVER THE INPUT: true; the input reads as it did. -/
def settingPlaysSpec : ChangeSpec := { name := "settingPlays", fn := fun _ => fun
  | [d] => { results := [.lit (.bool true)], args := [d] }
  | _ => none }
def settingPlaysRow : OpenClaim := { program := "ytlgeeibaohdjhaa", sum := "5987c7ad707dfe8b40aaaa43401e934d498e713d44d9fffcd7ddd187780dc507", func := "aqueduct/aqueductlaw09.SettingPlays", spec := "settingPlays", unfollowed := true, recurses := true, apart := false }
def SettingPlaysSaid : Prop := settingPlaysRow.holds Try.pinned (OpenSpec.ofChange settingPlaysSpec)

/-- ITS FALSE NEIGHBOUR: 'it returns false'. Refute it at one input. -/
def settingPlaysWrong : ChangeSpec := { name := "settingPlays", fn := fun _ => fun
  | [d] => { results := [.lit (.bool false)], args := [d] }
  | _ => none }
def SettingPlaysWrongFalsely : Prop := settingPlaysRow.holds Try.pinned (OpenSpec.ofChange settingPlaysWrong)

/-- 'aqueductlaw11.WindowPlays': WHATEVER THE INPUT: true; the input reads as it did. -/
def windowPlaysSpec : ChangeSpec := { name := "windowPlays", fn := fun _ => fun
  | [d1, d2] => { results := [.lit (.bool true)], args := [d1, d2] }
  | _ => none }
def windowPlaysRow : OpenClaim := { program := "ytlgeeibaohdjhaa", sum := "5987c7ad707dfe8b40aaaa43401e934d498e713d44d9fffcd7ddd187780dc507", func := "aqueduct/aqueductlaw11.WindowPlays", spec := "windowPlays", apart := false }
def WindowPlaysSaid : Prop := windowPlaysRow.holds Try.pinned (OpenSpec.ofChange windowPlaysSpec)

/-- ITS FALSE NEIGHBOUR: 'it returns false'. Refute it at one input. -/
def windowPlaysWrong : ChangeSpec := { name := "windowPlays", fn := fun _ => fun
  | [d1, d2] => { results := [.lit (.bool false)], args := [d1, d2] }
  | _ => none }
def WindowPlaysWrongFalsely : Prop := windowPlaysRow.holds Try.pinned (OpenSpec.ofChange windowPlaysWrong)

/-- 'aqueductlaw11.WindowBound': WHATEVER THE INPUT: true; the input reads as it did. -/
def windowBoundSpec : ChangeSpec := { name := "windowBound", fn := fun _ => fun
  | [d1, d2] => { results := [.lit (.bool true)], args := [d1, d2] }
  | _ => none }
def windowBoundRow : OpenClaim := { program := "ytlgeeibaohdjhaa", sum := "5987c7ad707dfe8b40aaaa43401e934d498e713d44d9fffcd7ddd187780dc507", func := "aqueduct/aqueductlaw11.WindowBound", spec := "windowBound", apart := false }
def WindowBoundSaid : Prop := windowBoundRow.holds Try.pinned (OpenSpec.ofChange windowBoundSpec)

/-- ITS FALSE NEIGHBOUR: 'it returns false'. Refute it at one input. -/
def windowBoundWrong : ChangeSpec := { name := "windowBound", fn := fun _ => fun
  | [d1, d2] => { results := [.lit (.bool false)], args := [d1, d2] }
  | _ => none }
def WindowBoundWrongFalsely : Prop := windowBoundRow.holds Try.pinned (OpenSpec.ofChange windowBoundWrong)

/-- 'aqueductlaw11.WindowRoom': WHATEVER THE INPUT: true; the input reads as it did. -/
def windowRoomSpec : ChangeSpec := { name := "windowRoom", fn := fun _ => fun
  | [d1, d2] => { results := [.lit (.bool true)], args := [d1, d2] }
  | _ => none }
def windowRoomRow : OpenClaim := { program := "ytlgeeibaohdjhaa", sum := "5987c7ad707dfe8b40aaaa43401e934d498e713d44d9fffcd7ddd187780dc507", func := "aqueduct/aqueductlaw11.WindowRoom", spec := "windowRoom", apart := false }
def WindowRoomSaid : Prop := windowRoomRow.holds Try.pinned (OpenSpec.ofChange windowRoomSpec)

/-- ITS FALSE NEIGHBOUR: 'it returns false'. Refute it at one input. -/
def windowRoomWrong : ChangeSpec := { name := "windowRoom", fn := fun _ => fun
  | [d1, d2] => { results := [.lit (.bool false)], args := [d1, d2] }
  | _ => none }
def WindowRoomWrongFalsely : Prop := windowRoomRow.holds Try.pinned (OpenSpec.ofChange windowRoomWrong)

/-- 'aqueductlaw11.WindowCredits': WHATEVER THE INPUT: true; the input reads as it did. -/
def windowCreditsSpec : ChangeSpec := { name := "windowCredits", fn := fun _ => fun
  | [d1, d2] => { results := [.lit (.bool true)], args := [d1, d2] }
  | _ => none }
def windowCreditsRow : OpenClaim := { program := "ytlgeeibaohdjhaa", sum := "5987c7ad707dfe8b40aaaa43401e934d498e713d44d9fffcd7ddd187780dc507", func := "aqueduct/aqueductlaw11.WindowCredits", spec := "windowCredits", apart := false }
def WindowCreditsSaid : Prop := windowCreditsRow.holds Try.pinned (OpenSpec.ofChange windowCreditsSpec)

/-- ITS FALSE NEIGHBOUR: 'it returns false'. Refute it at one input. -/
def windowCreditsWrong : ChangeSpec := { name := "windowCredits", fn := fun _ => fun
  | [d1, d2] => { results := [.lit (.bool false)], args := [d1, d2] }
  | _ => none }
def WindowCreditsWrongFalsely : Prop := windowCreditsRow.holds Try.pinned (OpenSpec.ofChange windowCreditsWrong)

/-- 'aqueductlaw11.WindowGives': WHATEVER THE INPUT: true; the input reads as it did. -/
def windowGivesSpec : ChangeSpec := { name := "windowGives", fn := fun _ => fun
  | [d1, d2] => { results := [.lit (.bool true)], args := [d1, d2] }
  | _ => none }
def windowGivesRow : OpenClaim := { program := "ytlgeeibaohdjhaa", sum := "5987c7ad707dfe8b40aaaa43401e934d498e713d44d9fffcd7ddd187780dc507", func := "aqueduct/aqueductlaw11.WindowGives", spec := "windowGives", apart := false }
def WindowGivesSaid : Prop := windowGivesRow.holds Try.pinned (OpenSpec.ofChange windowGivesSpec)

/-- ITS FALSE NEIGHBOUR: 'it returns false'. Refute it at one input. -/
def windowGivesWrong : ChangeSpec := { name := "windowGives", fn := fun _ => fun
  | [d1, d2] => { results := [.lit (.bool false)], args := [d1, d2] }
  | _ => none }
def WindowGivesWrongFalsely : Prop := windowGivesRow.holds Try.pinned (OpenSpec.ofChange windowGivesWrong)

/-- 'aqueductlaw11.WindowZero': WHATEVER THE INPUT: true; the input reads as it did. -/
def windowZeroSpec : ChangeSpec := { name := "windowZero", fn := fun _ => fun
  | [d] => { results := [.lit (.bool true)], args := [d] }
  | _ => none }
def windowZeroRow : OpenClaim := { program := "ytlgeeibaohdjhaa", sum := "5987c7ad707dfe8b40aaaa43401e934d498e713d44d9fffcd7ddd187780dc507", func := "aqueduct/aqueductlaw11.WindowZero", spec := "windowZero", apart := false }
def WindowZeroSaid : Prop := windowZeroRow.holds Try.pinned (OpenSpec.ofChange windowZeroSpec)

/-- ITS FALSE NEIGHBOUR: 'it returns false'. Refute it at one input. -/
def windowZeroWrong : ChangeSpec := { name := "windowZero", fn := fun _ => fun
  | [d] => { results := [.lit (.bool false)], args := [d] }
  | _ => none }
def WindowZeroWrongFalsely : Prop := windowZeroRow.holds Try.pinned (OpenSpec.ofChange windowZeroWrong)

/- THE SECOND FORM. 'bulk': how many values and letters a reading holds, each counted each time it is reached (what is shared counts as often as it is met; a slice's spare places count too). A statement '..UptoSaid' is the law's where the arguments, and the package variables that the reading takes, are together of bulk at most 1048576: NARROWER than '..Said'. Prove '..Said' where nothing that the law and all that it calls make is longer than what came in: it says more and counts as full. Else prove '..UptoSaid'. A law counts once. -/
mutual
def uptoBulk {H : Type} : DataW H → Nat
  | .lit (.string bytes) => bytes.length + 1
  | .lit _ => 1
  | .nil => 1
  | .ptr d => uptoBulk d + 1
  | .slice elems spare => uptoBulkAll elems + uptoBulkAll spare + 1
  | .agg parts => uptoBulkAll parts + 1
  | .iface _ d => uptoBulk d + 1
  | .map entries => uptoBulkEntries entries + 1
  | .held _ => 1
def uptoBulkAll {H : Type} : List (DataW H) → Nat
  | [] => 0
  | d :: r => uptoBulk d + uptoBulkAll r
def uptoBulkEntries {H : Type} : List (Lit × DataW H) → Nat
  | [] => 0
  | x :: r => uptoBulkEntry x + uptoBulkEntries r
def uptoBulkEntry {H : Type} : Lit × DataW H → Nat
  | (.string bytes, d) => bytes.length + uptoBulk d + 1
  | (_, d) => uptoBulk d + 1
 end
def uptoSmall : (H : Type) → List (DataW H) → Bool := fun _ ds => decide (uptoBulkAll ds ≤ 1048576)
def OpenSpec.upto (s : _root_.Go.ChangeSpec) : _root_.Go.OpenSpec := { _root_.Go.OpenSpec.ofChange s with cond := some uptoSmall }

/-- 'aqueductlaw09.SettingChecks', WHERE WHAT IT READS IS OF BULK AT MOST 1048576: true; the input reads as it did. -/
def settingChecksUptoRow : OpenClaim := { program := "ytlgeeibaohdjhaa", sum := "5987c7ad707dfe8b40aaaa43401e934d498e713d44d9fffcd7ddd187780dc507", func := "aqueduct/aqueductlaw09.SettingChecks", spec := "settingChecks", unfollowed := true, recurses := true, apart := false, narrowed := true }
def SettingChecksUptoSaid : Prop := settingChecksUptoRow.holds Try.pinned (OpenSpec.upto settingChecksSpec)

/-- 'aqueductlaw09.SettingValues', WHERE WHAT IT READS IS OF BULK AT MOST 1048576: true; the input reads as it did. -/
def settingValuesUptoRow : OpenClaim := { program := "ytlgeeibaohdjhaa", sum := "5987c7ad707dfe8b40aaaa43401e934d498e713d44d9fffcd7ddd187780dc507", func := "aqueduct/aqueductlaw09.SettingValues", spec := "settingValues", unfollowed := true, recurses := true, apart := false, narrowed := true }
def SettingValuesUptoSaid : Prop := settingValuesUptoRow.holds Try.pinned (OpenSpec.upto settingValuesSpec)

/-- 'aqueductlaw09.SettingParts', WHERE WHAT IT READS IS OF BULK AT MOST 1048576: true; the input reads as it did. -/
def settingPartsUptoRow : OpenClaim := { program := "ytlgeeibaohdjhaa", sum := "5987c7ad707dfe8b40aaaa43401e934d498e713d44d9fffcd7ddd187780dc507", func := "aqueduct/aqueductlaw09.SettingParts", spec := "settingParts", unfollowed := true, recurses := true, apart := false, narrowed := true }
def SettingPartsUptoSaid : Prop := settingPartsUptoRow.holds Try.pinned (OpenSpec.upto settingPartsSpec)

/-- 'aqueductlaw09.SettingAcks', WHERE WHAT IT READS IS OF BULK AT MOST 1048576: true; the input reads as it did. -/
def settingAcksUptoRow : OpenClaim := { program := "ytlgeeibaohdjhaa", sum := "5987c7ad707dfe8b40aaaa43401e934d498e713d44d9fffcd7ddd187780dc507", func := "aqueduct/aqueductlaw09.SettingAcks", spec := "settingAcks", unfollowed := true, recurses := true, apart := false, narrowed := true }
def SettingAcksUptoSaid : Prop := settingAcksUptoRow.holds Try.pinned (OpenSpec.upto settingAcksSpec)

/-- 'aqueductlaw09.SettingZero', WHERE WHAT IT READS IS OF BULK AT MOST 1048576: true; the input reads as it did. -/
def settingZeroUptoRow : OpenClaim := { program := "ytlgeeibaohdjhaa", sum := "5987c7ad707dfe8b40aaaa43401e934d498e713d44d9fffcd7ddd187780dc507", func := "aqueduct/aqueductlaw09.SettingZero", spec := "settingZero", unfollowed := true, recurses := true, apart := false, narrowed := true }
def SettingZeroUptoSaid : Prop := settingZeroUptoRow.holds Try.pinned (OpenSpec.upto settingZeroSpec)

/-- 'aqueductlaw09.SettingPlays', WHERE WHAT IT READS IS OF BULK AT MOST 1048576: true; the input reads as it did. -/
def settingPlaysUptoRow : OpenClaim := { program := "ytlgeeibaohdjhaa", sum := "5987c7ad707dfe8b40aaaa43401e934d498e713d44d9fffcd7ddd187780dc507", func := "aqueduct/aqueductlaw09.SettingPlays", spec := "settingPlays", unfollowed := true, recurses := true, apart := false, narrowed := true }
def SettingPlaysUptoSaid : Prop := settingPlaysUptoRow.holds Try.pinned (OpenSpec.upto settingPlaysSpec)

/-- 'aqueductlaw11.WindowPlays', WHERE WHAT IT READS IS OF BULK AT MOST 1048576: true; the input reads as it did. -/
def windowPlaysUptoRow : OpenClaim := { program := "ytlgeeibaohdjhaa", sum := "5987c7ad707dfe8b40aaaa43401e934d498e713d44d9fffcd7ddd187780dc507", func := "aqueduct/aqueductlaw11.WindowPlays", spec := "windowPlays", apart := false, narrowed := true }
def WindowPlaysUptoSaid : Prop := windowPlaysUptoRow.holds Try.pinned (OpenSpec.upto windowPlaysSpec)

/-- 'aqueductlaw11.WindowBound', WHERE WHAT IT READS IS OF BULK AT MOST 1048576: true; the input reads as it did. -/
def windowBoundUptoRow : OpenClaim := { program := "ytlgeeibaohdjhaa", sum := "5987c7ad707dfe8b40aaaa43401e934d498e713d44d9fffcd7ddd187780dc507", func := "aqueduct/aqueductlaw11.WindowBound", spec := "windowBound", apart := false, narrowed := true }
def WindowBoundUptoSaid : Prop := windowBoundUptoRow.holds Try.pinned (OpenSpec.upto windowBoundSpec)

/-- 'aqueductlaw11.WindowRoom', WHERE WHAT IT READS IS OF BULK AT MOST 1048576: true; the input reads as it did. -/
def windowRoomUptoRow : OpenClaim := { program := "ytlgeeibaohdjhaa", sum := "5987c7ad707dfe8b40aaaa43401e934d498e713d44d9fffcd7ddd187780dc507", func := "aqueduct/aqueductlaw11.WindowRoom", spec := "windowRoom", apart := false, narrowed := true }
def WindowRoomUptoSaid : Prop := windowRoomUptoRow.holds Try.pinned (OpenSpec.upto windowRoomSpec)

/-- 'aqueductlaw11.WindowCredits', WHERE WHAT IT READS IS OF BULK AT MOST 1048576: true; the input reads as it did. -/
def windowCreditsUptoRow : OpenClaim := { program := "ytlgeeibaohdjhaa", sum := "5987c7ad707dfe8b40aaaa43401e934d498e713d44d9fffcd7ddd187780dc507", func := "aqueduct/aqueductlaw11.WindowCredits", spec := "windowCredits", apart := false, narrowed := true }
def WindowCreditsUptoSaid : Prop := windowCreditsUptoRow.holds Try.pinned (OpenSpec.upto windowCreditsSpec)

/-- 'aqueductlaw11.WindowGives', WHERE WHAT IT READS IS OF BULK AT MOST 1048576: true; the input reads as it did. -/
def windowGivesUptoRow : OpenClaim := { program := "ytlgeeibaohdjhaa", sum := "5987c7ad707dfe8b40aaaa43401e934d498e713d44d9fffcd7ddd187780dc507", func := "aqueduct/aqueductlaw11.WindowGives", spec := "windowGives", apart := false, narrowed := true }
def WindowGivesUptoSaid : Prop := windowGivesUptoRow.holds Try.pinned (OpenSpec.upto windowGivesSpec)

/-- 'aqueductlaw11.WindowZero', WHERE WHAT IT READS IS OF BULK AT MOST 1048576: true; the input reads as it did. -/
def windowZeroUptoRow : OpenClaim := { program := "ytlgeeibaohdjhaa", sum := "5987c7ad707dfe8b40aaaa43401e934d498e713d44d9fffcd7ddd187780dc507", func := "aqueduct/aqueductlaw11.WindowZero", spec := "windowZero", apart := false, narrowed := true }
def WindowZeroUptoSaid : Prop := windowZeroUptoRow.holds Try.pinned (OpenSpec.upto windowZeroSpec)

end Rows
end Go.Proofs.Ytlgeeibaohdjhaa
