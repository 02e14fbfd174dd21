/- How large lists of settings are. -/
import Derived.Test.YtlgeeibaohdjhaaSettingXp
import Derived.Test.YtlgeeibaohdjhaaSettingBulk
import Derived.Test.YtlgeeibaohdjhaaSettingT
set_option linter.unusedVariables false
set_option linter.unusedSimpArgs false
namespace Go.Proofs.Ytlgeeibaohdjhaa
open Go.Proofs.Ytlgeeibaohdjhaa.Eng
open Go.ChangeShapes Go.WideShapes Go.ChangeAt Go.RowKit
theorem lay_stsB {H : Type} {n : Nat} {d : DataW H} {σ τ : AW} {vs : List Value} (h : lay Try.prog n 36 d σ = some (vs, τ)) : Ext σ τ ∧ ∃ (l : List St) (v : Value), vs = [v] ∧ Sl τ v 2 l.length (l.flatMap St.cs) ∧ (∀ s ∈ l, s.val < 4294967296) ∧ l.length ≤ maxLen ∧ l.length ≤ Rows.uptoBulk d := by
  obtain ⟨he, l, v, rfl, hsl, hd, hp, hle⟩ := lay_sliceG (cs := St.cs) (z := 2) (p := fun _ s => s.val < 4294967296) (fun _ _ _ _ h => h) Try.underlying36 (by kernel_rfl) St.len (fun _ _ _ d' _ m σ vs τ h => by
    obtain ⟨rfl, x, h2, h3⟩ := lay_st _ _ _ _ _ h
    exact ⟨Ext.refl _, x, h2, h3⟩) h
  refine ⟨he, l, v, rfl, hsl, hp, hle, ?_⟩
  rcases hd with ⟨rfl, rfl⟩ | ⟨elems, spare, rfl, hl⟩
  · simp
  · have := bulks.slice_le elems spare
    omega
theorem lay_listsB {H : Type} {n : Nat} {d : DataW H} {σ τ : AW} {vs : List Value} (h : lay Try.prog n 28 d σ = some (vs, τ)) : Ext σ τ ∧ ∃ (l : List (Value × List St)) (v : Value), vs = [v] ∧ Sl τ v 1 l.length (l.map (·.1)) ∧ (∀ p ∈ l, LiesAt τ p ∧ p.2.length ≤ Rows.uptoBulk d) ∧ l.length ≤ Rows.uptoBulk d := by
  obtain ⟨he, l, v, rfl, hsl, hd, hp, hle⟩ := lay_sliceG (cs := fun p : Value × List St => [p.1]) (z := 1) (p := fun τ p => LiesAt τ p ∧ p.2.length ≤ Rows.uptoBulk d) (fun σ τ p he hp => ⟨⟨hp.1.1.ext he, hp.1.2⟩, hp.2⟩) Try.underlying28 (by kernel_rfl) (fun _ => rfl) (fun elems spare e d' hd' m σ vs τ h => by
    obtain ⟨he, l, v, rfl, h1, h2, h3, h4⟩ := lay_stsB h
    have h5 := bulks.part_le hd'
    have h6 := bulks.slice_elems elems spare
    rw [← e] at h6
    exact ⟨he, (v, l), rfl, ⟨h1, h2, h3⟩, by simp only; omega⟩) h
  refine ⟨he, l, v, rfl, ?_, hp, ?_⟩
  · rw [flat_one l] at hsl
    exact hsl
  · rcases hd with ⟨rfl, rfl⟩ | ⟨elems, spare, rfl, hl⟩
    · simp
    · have := bulks.slice_le elems spare
      omega
end Go.Proofs.Ytlgeeibaohdjhaa

