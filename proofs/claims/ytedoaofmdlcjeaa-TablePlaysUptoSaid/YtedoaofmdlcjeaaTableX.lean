/- What the claims on Table share: closed facts of the program; how headers are laid. -/
import Derived.Test.YtedoaofmdlcjeaaTable
import Derived.Test.YtedoaofmdlcjeaaEngU
import Derived.WalkKit
import Derived.OpenShut
set_option linter.unusedVariables false
set_option linter.unusedSimpArgs false
namespace Go.Proofs.Ytedoaofmdlcjeaa
open Go.Proofs.Ytedoaofmdlcjeaa.Eng
open Go.ChangeShapes Go.WideShapes Go.ChangeAt Go.RowKit

theorem own : ownKnob Try.prog.godebug = none := by kernel_rfl
theorem laidOut : laidOutB Try.prog = true := by kernel_rfl
theorem mixed : Try.prog.follows .mixedOrders = true := by kernel_rfl
theorem lay_hd {H : Type} (m : Nat) (d : DataW H) (σ : AW) (vs : List Value) (τ : AW) (h : lay Try.prog m 23 d σ = some (vs, τ)) : τ = σ ∧ ∃ x : Hd, vs = x.cs := by
  obtain ⟨m', parts, e0, g0⟩ := lay_struct Try.underlying23 h
  simp only [List.map_cons, List.map_nil] at g0
  obtain ⟨d1, ds1, u1, w1, σ1, e1, h1, g1, k1⟩ := layFields_cons g0
  obtain ⟨d2, ds2, u2, w2, σ2, e2, h2, g2, k2⟩ := layFields_cons g1
  obtain ⟨d3, ds3, u3, w3, σ3, e3, h3, g3, k3⟩ := layFields_cons g2
  obtain ⟨e4, k4, s4⟩ := layFields_nil g3
  obtain ⟨s1, a, l1, _⟩ := lay_str Try.underlying9 h1
  obtain ⟨s2, b, l2, _⟩ := lay_str Try.underlying9 h2
  obtain ⟨s3, c, l3, _⟩ := lay_bool Try.underlying4 h3
  exact ⟨s4.trans (s3.trans (s2.trans s1)), ⟨a, b, c⟩, by rw [k1, k2, k3, k4, l1, l2, l3]; rfl⟩
theorem arg3 {v : Value} : argOf Try.prog 3 [v] = v := by unfold argOf; rw [Try.underlying3]; rfl
theorem arg23 {x : Hd} : argOf Try.prog 23 x.cs = .agg x.cs.toArray := by unfold argOf; rw [Try.underlying23]
end Go.Proofs.Ytedoaofmdlcjeaa
