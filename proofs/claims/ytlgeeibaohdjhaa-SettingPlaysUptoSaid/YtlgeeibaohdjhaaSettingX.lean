/- What the claims on Setting share: closed facts of the program; how settings are laid. -/
import Derived.Test.YtlgeeibaohdjhaaSetting
import Derived.Test.YtlgeeibaohdjhaaEngU
import Derived.WalkKit
import Derived.OpenShut
set_option linter.unusedVariables false
set_option linter.unusedSimpArgs false
namespace Go.Proofs.Ytlgeeibaohdjhaa
open Go.Proofs.Ytlgeeibaohdjhaa.Eng
open Go.ChangeShapes Go.WideShapes Go.ChangeAt Go.RowKit

theorem own : ownKnob Try.prog.godebug = none := by kernel_rfl
theorem laidOut : laidOutB Try.prog = true := by kernel_rfl
theorem mixed : Try.prog.follows .mixedOrders = true := by kernel_rfl
/-- A setting. -/
structure St where
  id : Int
  val : Nat
def St.cs (s : St) : List Value := [.int .i64 s.id, .int .u32 (s.val : Nat)]
theorem St.len (s : St) : s.cs.length = 2 := rfl
theorem wf_u32 {x : Int} (h : (Lit.int .u32 x).wf = true) : ∃ a : Nat, x = a ∧ a < 4294967296 := by
  simp [Lit.wf, IntKind.min, IntKind.max, IntKind.signed, IntKind.bits] at h
  exact ⟨x.toNat, by omega, by omega⟩
theorem lay_st {H : Type} (m : Nat) (d : DataW H) (σ : AW) (vs : List Value) (τ : AW) (h : lay Try.prog m 24 d σ = some (vs, τ)) : τ = σ ∧ ∃ x : St, vs = x.cs ∧ x.val < 4294967296 := by
  obtain ⟨m', parts, e0, g0⟩ := lay_struct Try.underlying24 h
  simp only [List.map_cons, List.map_nil] at g0
  obtain ⟨d1, ds1, u1, w1, σ1, e1, h1, g1, k1⟩ := layFields_cons g0
  obtain ⟨d2, ds2, u2, w2, σ2, e2, h2, g2, k2⟩ := layFields_cons g1
  obtain ⟨e3, k3, s3⟩ := layFields_nil g2
  obtain ⟨s1, b, l1, _⟩ := lay_int Try.underlying3 h1
  obtain ⟨s2, x, l2, q2, _⟩ := lay_int Try.underlying22 h2
  obtain ⟨a, rfl, ha⟩ := wf_u32 q2
  exact ⟨s3.trans (s2.trans s1), ⟨b, a⟩, by rw [k1, k2, k3, l1, l2]; rfl, ha⟩
theorem lay_sts {H : Type} {n : Nat} {d : DataW H} {σ τ : AW} {vs : List Value} (h : lay Try.prog n 36 d σ = some (vs, τ)) : Ext σ τ ∧ ∃ (l : List St) (v : Value), vs = [v] ∧ Sl τ v 2 l.length (l.flatMap St.cs) ∧ l.length ≤ maxLen := by
  obtain ⟨he, l, v, rfl, hsl, hd, hle⟩ := lay_slice (cs := St.cs) (z := 2) Try.underlying36 (by kernel_rfl) St.len (fun m d σ vs τ h => by
    obtain ⟨h1, x, h2, _⟩ := lay_st _ _ _ _ _ h
    exact ⟨h1, x, h2⟩) h
  exact ⟨he, l, v, rfl, hsl, hle⟩
theorem arg36 {v : Value} : argOf Try.prog 36 [v] = v := by unfold argOf; rw [Try.underlying36]; rfl
theorem arg3 {v : Value} : argOf Try.prog 3 [v] = v := by unfold argOf; rw [Try.underlying3]; rfl
end Go.Proofs.Ytlgeeibaohdjhaa
