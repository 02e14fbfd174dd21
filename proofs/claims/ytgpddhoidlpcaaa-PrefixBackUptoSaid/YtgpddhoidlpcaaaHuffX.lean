/- What the claims on Huff share: closed facts of the program. -/
import Derived.Test.YtgpddhoidlpcaaaHuffD
import Derived.Test.YtgpddhoidlpcaaaEngU
import Derived.WalkKit
import Derived.OpenShut
set_option linter.unusedVariables false
set_option linter.unusedSimpArgs false
namespace Go.Proofs.Ytgpddhoidlpcaaa
open Go.Proofs.Ytgpddhoidlpcaaa.Eng
open Go.ChangeShapes Go.WideShapes Go.ChangeAt Go.RowKit

theorem own : ownKnob Try.prog.godebug = none := by kernel_rfl
theorem laidOut : laidOutB Try.prog = true := by kernel_rfl
theorem mixed : Try.prog.follows .mixedOrders = true := by kernel_rfl
theorem wf_u8 {x : Int} (h : (Lit.int .u8 x).wf = true) : ∃ a : Nat, x = a ∧ a < 256 := by
  simp [Lit.wf, IntKind.min, IntKind.max, IntKind.signed, IntKind.bits] at h
  exact ⟨x.toNat, by omega, by omega⟩
theorem wf_u16 {x : Int} (h : (Lit.int .u16 x).wf = true) : ∃ a : Nat, x = a ∧ a < 65536 := by
  simp [Lit.wf, IntKind.min, IntKind.max, IntKind.signed, IntKind.bits] at h
  exact ⟨x.toNat, by omega, by omega⟩
theorem arg30 {v : Value} : argOf Try.prog 30 [v] = v := by unfold argOf; rw [Try.underlying30]; rfl
theorem arg3 {v : Value} : argOf Try.prog 3 [v] = v := by unfold argOf; rw [Try.underlying3]; rfl
theorem arg5 {v : Value} : argOf Try.prog 5 [v] = v := by unfold argOf; rw [Try.underlying5]; rfl
end Go.Proofs.Ytgpddhoidlpcaaa
