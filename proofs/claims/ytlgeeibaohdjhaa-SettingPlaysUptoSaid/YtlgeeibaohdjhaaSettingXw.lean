/- How large lists of settings are. -/
import Derived.Test.YtlgeeibaohdjhaaSettingXp
import Derived.Test.YtlgeeibaohdjhaaSettingBulk
import Derived.Test.YtlgeeibaohdjhaaSettingV
set_option linter.unusedVariables false
set_option linter.unusedSimpArgs false
namespace Go.Proofs.Ytlgeeibaohdjhaa
open Go.Proofs.Ytlgeeibaohdjhaa.Eng
open Go.ChangeShapes Go.WideShapes Go.ChangeAt Go.RowKit
theorem lay_stsB {H : Type} {n : Nat} {d : DataW H} {σ τ : AW} {vs : List Value} (h : lay Try.prog n 36 d σ = some (vs, τ)) : Ext σ τ ∧ ∃ (l : List St) (v : Value), vs = [v] ∧ Sl τ v 2 l.length (l.flatMap St.cs) ∧ (∀ s ∈ l, s.val < 4294967296) ∧ l.length ≤ maxLen ∧ l.length ≤ Rows.uptoBulk d := by
  obtain ⟨he, l, v, rfl, hsl, hd, hp, hle⟩ := lay_sliceG (cs := St.cs) (z := 2) (p := fun _ s => s.val < 4294967296) (fun _ _ _ _ h => h) Try.underlying36 (by kernel_rfl) St.len (fun _ _ _ d' _ m σ vs τ h => by
    obtain ⟨rfl, x, h2, h3⟩ := lay_st _ _ _ _ _ h
    exact ⟨Ext.refl _, x, h2, h3⟩) h
  refine ⟨he, l, v, rfl, hsl, hp, hle, ?_⟩
  rcases hd with ⟨rfl, rfl⟩ | ⟨elems, spare, rfl, hl⟩
  · simp
  · have := bulks.slice_le elems spare
    omega
theorem lay_listsB {H : Type} {n : Nat} {d : DataW H} {σ τ : AW} {vs : List Value} (h : lay Try.prog n 28 d σ = some (vs, τ)) : Ext σ τ ∧ ∃ (l : List (Value × List St)) (v : Value), vs = [v] ∧ Sl τ v 1 l.length (l.map (·.1)) ∧ (∀ p ∈ l, LiesAt τ p ∧ p.2.length ≤ Rows.uptoBulk d) ∧ l.length ≤ Rows.uptoBulk d := by
  obtain ⟨he, l, v, rfl, hsl, hd, hp, hle⟩ := lay_sliceG (cs := fun p : Value × List St => [p.1]) (z := 1) (p := fun τ p => LiesAt τ p ∧ p.2.length ≤ Rows.uptoBulk d) (fun σ τ p he hp => ⟨⟨hp.1.1.ext he, hp.1.2⟩, hp.2⟩) Try.underlying28 (by kernel_rfl) (fun _ => rfl) (fun elems spare e d' hd' m σ vs τ h => by
    obtain ⟨he, l, v, rfl, h1, h2, h3, h4⟩ := lay_stsB h
    have h5 := bulks.part_le hd'
    have h6 := bulks.slice_elems elems spare
    rw [← e] at h6
    exact ⟨he, (v, l), rfl, ⟨h1, h2, h3⟩, by simp only; omega⟩) h
  refine ⟨he, l, v, rfl, ?_, hp, ?_⟩
  · rw [flat_one l] at hsl
    exact hsl
  · rcases hd with ⟨rfl, rfl⟩ | ⟨elems, spare, rfl, hl⟩
    · simp
    · have := bulks.slice_le elems spare
      omega
end Go.Proofs.Ytlgeeibaohdjhaa

namespace Go.Proofs.Ytlgeeibaohdjhaa
open Go.Proofs.Ytlgeeibaohdjhaa.Eng
open Go.ChangeShapes Go.WideShapes Go.ChangeAt Go.RowKit
theorem lay_op9 {H : Type} (m : Nat) (d : DataW H) (σ : AW) (vs : List Value) (τ : AW) (h : lay Try.prog m 55 d σ = some (vs, τ)) : Ext σ τ ∧ ∃ o : Op9, vs = o.cs ∧ LiesAt τ (o.v, o.l) ∧ o.l.length ≤ Rows.uptoBulk d := by
  obtain ⟨m', parts, e0, g0⟩ := lay_struct Try.underlying55 h
  simp only [List.map_cons, List.map_nil] at g0
  obtain ⟨d1, ds1, u1, w1, σ1, e1, h1, g1, k1⟩ := layFields_cons g0
  obtain ⟨d2, ds2, u2, w2, σ2, e2, h2, g2, k2⟩ := layFields_cons g1
  obtain ⟨e3, k3, s3⟩ := layFields_nil g2
  obtain ⟨s1, a, l1, _⟩ := lay_int Try.underlying3 h1
  obtain ⟨he, l, v, l2, hsl, hv, hm, hle⟩ := lay_stsB h2
  subst s3; subst s1
  refine ⟨he, ⟨a, v, l⟩, by rw [k1, k2, k3, l1, l2]; rfl, ⟨hsl, hv, hm⟩, ?_⟩
  subst e0
  rw [e1, e2, e3]
  simp only [Rows.uptoBulk, Rows.uptoBulkAll]
  omega
theorem lay_ops9 {H : Type} {n : Nat} {d : DataW H} {σ τ : AW} {vs : List Value} (h : lay Try.prog n 51 d σ = some (vs, τ)) : Ext σ τ ∧ ∃ (l : List Op9) (v : Value), vs = [v] ∧ Sl τ v 2 l.length (l.flatMap Op9.cs) ∧ (∀ o ∈ l, LiesAt τ (o.v, o.l) ∧ o.l.length ≤ Rows.uptoBulk d) ∧ l.length ≤ Rows.uptoBulk d := by
  obtain ⟨he, l, v, rfl, hsl, hd, hp, hle⟩ := lay_sliceG (cs := Op9.cs) (z := 2) (p := fun τ (o : Op9) => LiesAt τ (o.v, o.l) ∧ o.l.length ≤ Rows.uptoBulk d) (fun σ τ o he hp => ⟨⟨hp.1.1.ext he, hp.1.2⟩, hp.2⟩) Try.underlying51 (by kernel_rfl) Op9.len (fun elems spare e d' hd' m σ vs τ h => by
    obtain ⟨he, o, h1, h2, h4⟩ := lay_op9 _ _ _ _ _ h
    have h5 := bulks.part_le hd'
    have h6 := bulks.slice_elems elems spare
    rw [← e] at h6
    exact ⟨he, o, h1, h2, by omega⟩) h
  refine ⟨he, l, v, rfl, hsl, hp, ?_⟩
  rcases hd with ⟨rfl, rfl⟩ | ⟨elems, spare, rfl, hl⟩
  · simp
  · have := bulks.slice_le elems spare
    omega
theorem arg51 {v : Value} : argOf Try.prog 51 [v] = v := by unfold argOf; rw [Try.underlying51]; rfl
end Go.Proofs.Ytlgeeibaohdjhaa
