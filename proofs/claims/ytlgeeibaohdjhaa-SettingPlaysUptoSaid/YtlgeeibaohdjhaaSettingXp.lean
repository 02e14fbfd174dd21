/- How lists of settings are laid, whole and within lists. -/
import Derived.Test.YtlgeeibaohdjhaaSettingXb
import Derived.Test.YtlgeeibaohdjhaaSettingO
set_option linter.unusedVariables false
set_option linter.unusedSimpArgs false
namespace Go.Proofs.Ytlgeeibaohdjhaa
open Go.Proofs.Ytlgeeibaohdjhaa.Eng
open Go.ChangeShapes Go.WideShapes Go.ChangeAt Go.RowKit
section
variable {P : Program} {H : Type}
theorem layAll_G {α : Type} {f : DataW H → AW → Option (List Value × AW)} {cs : α → List Value} {p : AW → α → Prop} (hm : ∀ σ τ a, Ext σ τ → p σ a → p τ a) : ∀ (ds : List (DataW H)), (∀ d, d ∈ ds → ∀ σ vs τ, f d σ = some (vs, τ) → Ext σ τ ∧ ∃ a, vs = cs a ∧ p τ a) → ∀ (σ : AW) (vs : List Value) (τ : AW), layAll f ds σ = some (vs, τ) → Ext σ τ ∧ ∃ l : List α, vs = l.flatMap cs ∧ l.length = ds.length ∧ ∀ a ∈ l, p τ a
  | [], _, σ, vs, τ, h => by
    simp only [layAll, Option.some.injEq, Prod.mk.injEq] at h
    obtain ⟨rfl, rfl⟩ := h
    exact ⟨Ext.refl _, [], rfl, rfl, by simp⟩
  | d :: ds, hf, σ, vs, τ, h => by
    unfold layAll at h
    split at h
    · cases h
    · rename_i us σ' h1
      split at h
      · cases h
      · rename_i ws σ'' h2
        simp only [Option.some.injEq, Prod.mk.injEq] at h
        obtain ⟨rfl, rfl⟩ := h
        obtain ⟨e1, a, rfl, ha⟩ := hf d (by simp) _ _ _ h1
        obtain ⟨e2, l, rfl, hl, hp⟩ := layAll_G hm ds (fun d' hd' => hf d' (by simp [hd'])) _ _ _ h2
        exact ⟨e1.trans e2, a :: l, by simp, by simp [hl], by
          intro b hb
          rcases List.mem_cons.1 hb with rfl | hb
          · exact hm _ _ _ e2 ha
          · exact hp b hb⟩
theorem lay_sliceG {α : Type} {cs : α → List Value} {p : AW → α → Prop} (hm : ∀ σ τ a, Ext σ τ → p σ a → p τ a) {z n : Nat} {t e : TypeId} {d : DataW H} {σ τ : AW} {vs : List Value} (ht : P.underlying t = some (.slice e)) (hz : P.cellsOf e = z) (hcs : ∀ a, (cs a).length = z)
    (hf : ∀ (elems spare : List (DataW H)), d = .slice elems spare → ∀ d', d' ∈ elems → ∀ (m : Nat) (σ : AW) (vs : List Value) (τ : AW), lay P m e d' σ = some (vs, τ) → Ext σ τ ∧ ∃ a, vs = cs a ∧ p τ a) (h : lay P n t d σ = some (vs, τ)) :
    Ext σ τ ∧ ∃ (l : List α) (v : Value), vs = [v] ∧ Sl τ v z l.length (l.flatMap cs) ∧ ((d = .nil ∧ l = []) ∨ ∃ elems spare, d = .slice elems spare ∧ elems.length = l.length) ∧ (∀ a ∈ l, p τ a) ∧ l.length ≤ maxLen := by
  cases n with
  | zero => simp [lay] at h
  | succ n =>
    unfold lay at h
    rw [ht] at h
    split at h <;> try (simp at *; done)
    · simp only [Option.some.injEq, Prod.mk.injEq] at h
      obtain ⟨rfl, rfl⟩ := h
      exact ⟨Ext.refl _, [], _, rfl, ⟨by simp, .inl ⟨rfl, rfl⟩⟩, .inl ⟨rfl, rfl⟩, by simp, by simp⟩
    · rename_i e' elems spare he
      injection he with he
      injection he with he
      subst he
      split at h
      · cases h
      · rename_i us υ h1
        obtain ⟨e1, l, rfl, hl, hp⟩ := layAll_G hm elems (fun d' hd' => hf elems spare rfl d' hd' n) _ _ _ h1
        split at h
        · cases h
        rename_i hml
        split at h
        · rename_i hemp
          simp only [Option.some.injEq, Prod.mk.injEq] at h
          obtain ⟨rfl, rfl⟩ := h
          have : elems = [] := by simpa using hemp
          subst this
          have hl0 : l = [] := by simpa using hl
          subst hl0
          refine ⟨e1.trans ⟨by simp, fun b _ => rfl⟩, [], _, rfl, ⟨by simp, .inr ⟨υ.next, 0, 0, [], 0, false, by simp [hz], Nat.le_refl _, by simp, .inl rfl⟩⟩, .inr ⟨[], spare, rfl, rfl⟩, by simp, by simp⟩
        · simp only [Option.some.injEq, Prod.mk.injEq] at h
          obtain ⟨rfl, rfl⟩ := h
          have hlen := length_flatMap hcs l
          refine ⟨e1.trans (Ext.push _ _), l, _, rfl, ⟨hlen, .inr ⟨υ.next, 0, elems.length, l.flatMap cs, e, true, by simp [hz, hl], by omega, by simp, .inr ⟨by rw [AW.get_push, if_pos rfl], by omega, by rw [List.drop_zero, List.take_of_length_le (by omega)]⟩⟩⟩, .inr ⟨elems, spare, rfl, hl.symm⟩, fun a ha => hm _ _ _ (Ext.push _ _) (hp a ha), by omega⟩
end
theorem lay_stsV {H : Type} {n : Nat} {d : DataW H} {σ τ : AW} {vs : List Value} (h : lay Try.prog n 36 d σ = some (vs, τ)) : Ext σ τ ∧ ∃ (l : List St) (v : Value), vs = [v] ∧ Sl τ v 2 l.length (l.flatMap St.cs) ∧ (∀ s ∈ l, s.val < 4294967296) ∧ l.length ≤ maxLen := by
  obtain ⟨he, l, v, rfl, hsl, hd, hp, hle⟩ := lay_sliceG (cs := St.cs) (z := 2) (p := fun _ s => s.val < 4294967296) (fun _ _ _ _ h => h) Try.underlying36 (by kernel_rfl) St.len (fun _ _ _ d' _ m σ vs τ h => by
    obtain ⟨rfl, x, h2, h3⟩ := lay_st _ _ _ _ _ h
    exact ⟨Ext.refl _, x, h2, h3⟩) h
  exact ⟨he, l, v, rfl, hsl, hp, hle⟩
/-- A list of settings, as it lies. -/
def LiesAt (σ : AW) (p : Value × List St) : Prop := Sl σ p.1 2 p.2.length (p.2.flatMap St.cs) ∧ (∀ s ∈ p.2, s.val < 4294967296) ∧ p.2.length ≤ maxLen
theorem flat_one : ∀ (l : List (Value × List St)), l.flatMap (fun p : Value × List St => [p.1]) = l.map (·.1)
  | [] => rfl
  | a :: l => by simp [flat_one l]
theorem lay_lists {H : Type} {n : Nat} {d : DataW H} {σ τ : AW} {vs : List Value} (h : lay Try.prog n 28 d σ = some (vs, τ)) : Ext σ τ ∧ ∃ (l : List (Value × List St)) (v : Value), vs = [v] ∧ Sl τ v 1 l.length (l.map (·.1)) ∧ (∀ p ∈ l, LiesAt τ p) ∧ l.length ≤ maxLen := by
  obtain ⟨he, l, v, rfl, hsl, hd, hp, hle⟩ := lay_sliceG (cs := fun p : Value × List St => [p.1]) (z := 1) (p := LiesAt) (fun σ τ p he hp => ⟨hp.1.ext he, hp.2⟩) Try.underlying28 (by kernel_rfl) (fun _ => rfl) (fun _ _ _ d' _ m σ vs τ h => by
    obtain ⟨he, l, v, rfl, h1, h2, h3⟩ := lay_stsV h
    exact ⟨he, (v, l), rfl, h1, h2, h3⟩) h
  refine ⟨he, l, v, rfl, ?_, hp, hle⟩
  have e : l.flatMap (fun p : Value × List St => [p.1]) = l.map (·.1) := flat_one l
  rw [e] at hsl
  exact hsl
theorem arg28 {v : Value} : argOf Try.prog 28 [v] = v := by unfold argOf; rw [Try.underlying28]; rfl
end Go.Proofs.Ytlgeeibaohdjhaa
