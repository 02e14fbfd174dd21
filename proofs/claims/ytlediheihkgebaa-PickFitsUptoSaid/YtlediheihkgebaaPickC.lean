/- What the claims on Pick share: closed facts of the program; how a list of back ends is laid. -/
import Derived.Test.YtlediheihkgebaaPick
import Derived.Test.YtlediheihkgebaaEngU
import Derived.Test.YtlediheihkgebaaBulk
import Derived.WalkKit
import Derived.OpenShut
set_option linter.unusedVariables false
set_option linter.unusedSimpArgs false
namespace Go.Proofs.Ytlediheihkgebaa
open Go.Proofs.Ytlediheihkgebaa.Eng
open Go.ChangeShapes Go.WideShapes Go.ChangeAt Go.RowKit

theorem own : ownKnob Try.prog.godebug = none := by kernel_rfl
theorem laidOut : laidOutB Try.prog = true := by kernel_rfl
theorem mixed : Try.prog.follows .mixedOrders = true := by kernel_rfl

theorem lay_bk {H : Type} (m : Nat) (d : DataW H) (σ : AW) (vs : List Value) (τ : AW) (h : lay Try.prog m 35 d σ = some (vs, τ)) : τ = σ ∧ ∃ b : Bk, vs = b.cs := by
  obtain ⟨m', parts, e0, g0⟩ := lay_struct Try.underlying35 h
  simp only [List.map_cons, List.map_nil] at g0
  obtain ⟨d1, ds1, u1, w1, σ1, e1, h1, g1, k1⟩ := layFields_cons g0
  obtain ⟨d2, ds2, u2, w2, σ2, e2, h2, g2, k2⟩ := layFields_cons g1
  obtain ⟨d3, ds3, u3, w3, σ3, e3, h3, g3, k3⟩ := layFields_cons g2
  obtain ⟨e4, k4, s4⟩ := layFields_nil g3
  obtain ⟨s1, b, l1, _⟩ := lay_bool Try.underlying4 h1
  obtain ⟨s2, x, l2, _, _⟩ := lay_int Try.underlying3 h2
  obtain ⟨s3, y, l3, _, _⟩ := lay_int Try.underlying3 h3
  exact ⟨s4.trans (s3.trans (s2.trans s1)), ⟨b, x, y⟩, by rw [k1, k2, k3, k4, l1, l2, l3]; rfl⟩
theorem lay_bks {H : Type} {n : Nat} {d : DataW H} {σ τ : AW} {vs : List Value} (h : lay Try.prog n 22 d σ = some (vs, τ)) : Ext σ τ ∧ ∃ (l : List Bk) (v : Value), vs = [v] ∧ Sl τ v 3 l.length (l.flatMap Bk.cs) ∧ l.length ≤ Rows.uptoBulk d := by
  obtain ⟨he, l, v, rfl, hsl, hd⟩ := lay_slice (cs := Bk.cs) (z := 3) Try.underlying22 (by kernel_rfl) Bk.len lay_bk h
  refine ⟨he, l, v, rfl, hsl, ?_⟩
  rcases hd with ⟨rfl, rfl⟩ | ⟨elems, spare, rfl, hl⟩
  · simp
  · have := bulks.slice_le elems spare
    omega

end Go.Proofs.Ytlediheihkgebaa
