/- What the claims on texts share. -/
import Derived.Test.YtgpddhoidlpcaaaPrefixB
import Derived.Test.YtgpddhoidlpcaaaHuffY
set_option linter.unusedVariables false
set_option linter.unusedSimpArgs false
namespace Go.Proofs.Ytgpddhoidlpcaaa
open Go.Proofs.Ytgpddhoidlpcaaa.Eng
open Go.ChangeShapes Go.WideShapes Go.ChangeAt Go.RowKit
theorem wf_u32 {x : Int} (h : (Lit.int .u32 x).wf = true) : ∃ a : Nat, x = a ∧ a < 4294967296 := by
  simp [Lit.wf, IntKind.min, IntKind.max, IntKind.signed, IntKind.bits] at h
  exact ⟨x.toNat, by omega, by omega⟩
theorem arg4 {v : Value} : argOf Try.prog 4 [v] = v := by unfold argOf; rw [Try.underlying4]; rfl
theorem arg9 {v : Value} : argOf Try.prog 9 [v] = v := by unfold argOf; rw [Try.underlying9]; rfl
theorem arg22 {v : Value} : argOf Try.prog 22 [v] = v := by unfold argOf; rw [Try.underlying22]; rfl
theorem lay_text {H : Type} {n : Nat} {d : DataW H} {σ τ : AW} {vs : List Value} (h : lay Try.prog n 9 d σ = some (vs, τ)) : τ = σ ∧ ∃ l : List UInt8, vs = [Tx l] ∧ l.length ≤ Rows.uptoBulk d := by
  obtain ⟨h1, l, h2, h3⟩ := lay_str Try.underlying9 h
  refine ⟨h1, l, h2, ?_⟩
  rw [h3, bulks.string_eq]
  omega
end Go.Proofs.Ytgpddhoidlpcaaa
