/- What the claims on Window share: closed facts of the program; how the arguments are laid. -/
import Derived.Test.YtlgeeibaohdjhaaWindowE
import Derived.Test.YtlgeeibaohdjhaaEngU
import Derived.Test.YtlgeeibaohdjhaaBulk
import Derived.WalkKit
import Derived.OpenShut
set_option linter.unusedVariables false
set_option linter.unusedSimpArgs false
namespace Go.Proofs.Ytlgeeibaohdjhaa
open Go.Proofs.Ytlgeeibaohdjhaa.Eng
open Go.ChangeShapes Go.WideShapes Go.ChangeAt Go.RowKit

theorem own : ownKnob Try.prog.godebug = none := by kernel_rfl
theorem laidOut : laidOutB Try.prog = true := by kernel_rfl
theorem mixed : Try.prog.follows .mixedOrders = true := by kernel_rfl
theorem lay_op {H : Type} (m : Nat) (d : DataW H) (σ : AW) (vs : List Value) (τ : AW) (h : lay Try.prog m 71 d σ = some (vs, τ)) : τ = σ ∧ ∃ x : Op, vs = x.cs := by
  obtain ⟨m', parts, e0, g0⟩ := lay_struct Try.underlying71 h
  simp only [List.map_cons, List.map_nil] at g0
  obtain ⟨d1, ds1, u1, w1, σ1, e1, h1, g1, k1⟩ := layFields_cons g0
  obtain ⟨d2, ds2, u2, w2, σ2, e2, h2, g2, k2⟩ := layFields_cons g1
  obtain ⟨e3, k3, s3⟩ := layFields_nil g2
  obtain ⟨s1, b, l1, _⟩ := lay_int Try.underlying3 h1
  obtain ⟨s2, x, l2, _, _⟩ := lay_int Try.underlying3 h2
  exact ⟨s3.trans (s2.trans s1), ⟨b, x⟩, by rw [k1, k2, k3, l1, l2]; rfl⟩
theorem lay_ops {H : Type} {n : Nat} {d : DataW H} {σ τ : AW} {vs : List Value} (h : lay Try.prog n 63 d σ = some (vs, τ)) : Ext σ τ ∧ ∃ (l : List Op) (v : Value), vs = [v] ∧ Sl τ v 2 l.length (l.flatMap Op.cs) ∧ l.length < big := by
  obtain ⟨he, l, v, rfl, hsl, hd, hle⟩ := lay_slice (cs := Op.cs) (z := 2) Try.underlying63 (by kernel_rfl) Op.len lay_op h
  exact ⟨he, l, v, rfl, hsl, by unfold big; unfold maxLen at hle; omega⟩
theorem flat_U (l : List Nat) : l.flatMap (fun a : Nat => [U a]) = l.map U := by
  induction l with
  | nil => rfl
  | cons a l ih => simp only [List.flatMap_cons, List.map_cons, ih]; rfl
theorem wf_u16 {x : Int} (h : (Lit.int .u16 x).wf = true) : 0 ≤ x ∧ x ≤ 65535 := by
  simp [Lit.wf, IntKind.min, IntKind.max, IntKind.signed, IntKind.bits] at h
  omega
theorem wf_u32 {x : Int} (h : (Lit.int .u32 x).wf = true) : 0 ≤ x ∧ x < 4294967296 := by
  simp [Lit.wf, IntKind.min, IntKind.max, IntKind.signed, IntKind.bits] at h
  omega
theorem lay_us {H : Type} {n : Nat} {d : DataW H} {σ τ : AW} {vs : List Value} (h : lay Try.prog n 88 d σ = some (vs, τ)) : Ext σ τ ∧ ∃ (l : List Nat) (v : Value), vs = [v] ∧ Sl τ v 1 l.length (l.map U) ∧ l.length ≤ Rows.uptoBulk d := by
  obtain ⟨he, l, v, rfl, hsl, hd, hle⟩ := lay_slice (cs := fun a : Nat => [U a]) (z := 1) Try.underlying88 (by kernel_rfl) (fun _ => rfl) (fun m d σ vs τ h => by
    obtain ⟨s1, b, l1, hw, _⟩ := lay_int Try.underlying78 h
    obtain ⟨w1, w2⟩ := wf_u16 hw
    refine ⟨s1, b.toNat, ?_⟩
    rw [l1]
    unfold U
    rw [Nat.mod_eq_of_lt (by omega), Int.toNat_of_nonneg w1]) h
  rw [flat_U] at hsl
  refine ⟨he, l, v, rfl, hsl, ?_⟩
  rcases hd with ⟨rfl, rfl⟩ | ⟨elems, spare, rfl, hl⟩
  · simp
  · have := bulks.slice_le elems spare
    omega
theorem arg63 {v : Value} : argOf Try.prog 63 [v] = v := by unfold argOf; rw [Try.underlying63]; rfl
theorem arg88 {v : Value} : argOf Try.prog 88 [v] = v := by unfold argOf; rw [Try.underlying88]; rfl
theorem arg3 {v : Value} : argOf Try.prog 3 [v] = v := by unfold argOf; rw [Try.underlying3]; rfl
theorem arg22 {v : Value} : argOf Try.prog 22 [v] = v := by unfold argOf; rw [Try.underlying22]; rfl
theorem arg78 {v : Value} : argOf Try.prog 78 [v] = v := by unfold argOf; rw [Try.underlying78]; rfl
end Go.Proofs.Ytlgeeibaohdjhaa
