/- What the claims on Health share: closed facts of the program; how the arguments are laid. -/
import Derived.Test.YtlediheihkgebaaHealthH
import Derived.Test.YtlediheihkgebaaEngU
import Derived.WalkKit
import Derived.OpenShut
set_option linter.unusedVariables false
set_option linter.unusedSimpArgs false
namespace Go.Proofs.Ytlediheihkgebaa
open Go.Proofs.Ytlediheihkgebaa.Eng
open Go.ChangeShapes Go.WideShapes Go.ChangeAt Go.RowKit

theorem own : ownKnob Try.prog.godebug = none := by kernel_rfl
theorem laidOut : laidOutB Try.prog = true := by kernel_rfl
theorem mixed : Try.prog.follows .mixedOrders = true := by kernel_rfl
theorem lay_hc {H : Type} {m : Nat} {d : DataW H} {σ : AW} {vs : List Value} {τ : AW} (h : lay Try.prog m 37 d σ = some (vs, τ)) : τ = σ ∧ ∃ x : Hc, vs = x.cs := by
  obtain ⟨m', parts, e0, g0⟩ := lay_struct Try.underlying37 h
  simp only [List.map_cons, List.map_nil] at g0
  obtain ⟨d1, ds1, u1, w1, σ1, e1, h1, g1, k1⟩ := layFields_cons g0
  obtain ⟨d2, ds2, u2, w2, σ2, e2, h2, g2, k2⟩ := layFields_cons g1
  obtain ⟨d3, ds3, u3, w3, σ3, e3, h3, g3, k3⟩ := layFields_cons g2
  obtain ⟨e4, k4, s4⟩ := layFields_nil g3
  obtain ⟨s1, b, l1, _⟩ := lay_int Try.underlying3 h1
  obtain ⟨s2, x, l2, _, _⟩ := lay_int Try.underlying3 h2
  obtain ⟨s3, y, l3, _, _⟩ := lay_int Try.underlying3 h3
  exact ⟨s4.trans (s3.trans (s2.trans s1)), ⟨b, x, y⟩, by rw [k1, k2, k3, k4, l1, l2, l3]; rfl⟩
theorem flat_ints (l : List Int) : l.flatMap (fun a : Int => [I a]) = l.map I := by
  induction l with
  | nil => rfl
  | cons a l ih => simp only [List.flatMap_cons, List.map_cons, ih]; rfl
theorem lay_ints {H : Type} {n : Nat} {d : DataW H} {σ τ : AW} {vs : List Value} (h : lay Try.prog n 24 d σ = some (vs, τ)) : Ext σ τ ∧ ∃ (l : List Int) (v : Value), vs = [v] ∧ Sl τ v 1 l.length (l.map I) ∧ l.length < big := by
  obtain ⟨he, l, v, rfl, hsl, hd, hle⟩ := lay_slice (cs := fun a : Int => [I a]) (z := 1) Try.underlying24 (by kernel_rfl) (fun _ => rfl) (fun m d σ vs τ h => by
    obtain ⟨s1, b, l1, _⟩ := lay_int Try.underlying3 h
    exact ⟨s1, b, l1⟩) h
  rw [flat_ints] at hsl
  exact ⟨he, l, v, rfl, hsl, by unfold big; unfold maxLen at hle; omega⟩
theorem arg37 {x : Hc} : argOf Try.prog 37 x.cs = .agg x.cs.toArray := by unfold argOf; rw [Try.underlying37]
theorem arg24 {v : Value} : argOf Try.prog 24 [v] = v := by unfold argOf; rw [Try.underlying24]; rfl
theorem arg5 {v : Value} : argOf Try.prog 5 [v] = v := by unfold argOf; rw [Try.underlying5]; rfl
theorem arg4 {v : Value} : argOf Try.prog 4 [v] = v := by unfold argOf; rw [Try.underlying4]; rfl
theorem u8_nonneg {x : Int} (h : (Lit.int .u8 x).wf = true) : 0 ≤ x := by
  simp [Lit.wf, IntKind.min, IntKind.signed] at h
  exact h.1
end Go.Proofs.Ytlediheihkgebaa
