/- What a reading of scalars and structs is laid as. -/
import Derived.Test.YtjmafbiklebjcaaEngT
set_option linter.unusedVariables false
set_option linter.unusedSimpArgs false
namespace Go.Proofs.Ytjmafbiklebjcaa.Eng
variable {P : Program} {H : Type}
theorem lay_bool {n : Nat} {t : TypeId} {d : DataW H} {σ τ : AW} {vs : List Value} (ht : P.underlying t = some .bool) (h : lay P n t d σ = some (vs, τ)) : τ = σ ∧ ∃ b, vs = [.bool b] ∧ d = .lit (.bool b) := by
  cases n with
  | zero => simp [lay] at h
  | succ n =>
    unfold lay at h
    rw [ht] at h
    split at h <;> try (simp at *; done)
    simp only [Option.some.injEq, Prod.mk.injEq] at h
    exact ⟨h.2.symm, _, h.1.symm, rfl⟩
theorem lay_int {n : Nat} {t : TypeId} {k : IntKind} {d : DataW H} {σ τ : AW} {vs : List Value} (ht : P.underlying t = some (.int k)) (h : lay P n t d σ = some (vs, τ)) : τ = σ ∧ ∃ x, vs = [.int k x] ∧ (Lit.int k x).wf = true ∧ d = .lit (.int k x) := by
  cases n with
  | zero => simp [lay] at h
  | succ n =>
    unfold lay at h
    rw [ht] at h
    split at h <;> try (simp at *; done)
    rename_i k1 k2 x hk
    injection hk with hk
    injection hk with hk
    subst hk
    split at h
    · rename_i hc
      simp only [Option.some.injEq, Prod.mk.injEq] at h
      obtain ⟨rfl, hw⟩ := hc
      exact ⟨h.2.symm, _, h.1.symm, hw, rfl⟩
    · cases h
theorem lay_str {n : Nat} {t : TypeId} {d : DataW H} {σ τ : AW} {vs : List Value} (ht : P.underlying t = some .string) (h : lay P n t d σ = some (vs, τ)) : τ = σ ∧ ∃ l : List UInt8, vs = [.string ⟨l.toArray⟩] ∧ d = .lit (.string l) := by
  cases n with
  | zero => simp [lay] at h
  | succ n =>
    unfold lay at h
    rw [ht] at h
    split at h <;> try (simp at *; done)
    split at h
    · simp only [Option.some.injEq, Prod.mk.injEq] at h
      exact ⟨h.2.symm, _, h.1.symm, rfl⟩
    · cases h
theorem layFields_nil {f : TypeId → DataW H → AW → Option (List Value × AW)} {ds : List (DataW H)} {σ τ : AW} {vs : List Value} (h : layFields f [] ds σ = some (vs, τ)) : ds = [] ∧ vs = [] ∧ τ = σ := by
  cases ds with
  | nil => simp only [layFields, Option.some.injEq, Prod.mk.injEq] at h; exact ⟨rfl, h.1.symm, h.2.symm⟩
  | cons d ds => simp [layFields] at h
theorem layFields_cons {f : TypeId → DataW H → AW → Option (List Value × AW)} {t : TypeId} {ts : List TypeId} {ds : List (DataW H)} {σ τ : AW} {vs : List Value} (h : layFields f (t :: ts) ds σ = some (vs, τ)) :
    ∃ d ds' us ws σ', ds = d :: ds' ∧ f t d σ = some (us, σ') ∧ layFields f ts ds' σ' = some (ws, τ) ∧ vs = us ++ ws := by
  cases ds with
  | nil => simp [layFields] at h
  | cons d ds =>
    simp only [layFields] at h
    split at h
    · cases h
    · rename_i us σ' h1
      split at h
      · cases h
      · rename_i ws σ'' h2
        simp only [Option.some.injEq, Prod.mk.injEq] at h
        obtain ⟨rfl, rfl⟩ := h
        exact ⟨d, ds, us, ws, σ', rfl, h1, h2, rfl⟩
theorem lay_struct {n : Nat} {t : TypeId} {fs : Array Field} {d : DataW H} {σ τ : AW} {vs : List Value} (ht : P.underlying t = some (.struct fs)) (h : lay P n t d σ = some (vs, τ)) :
    ∃ m parts, d = .agg parts ∧ layFields (lay P m) (fs.toList.map (·.type)) parts σ = some (vs, τ) := by
  cases n with
  | zero => simp [lay] at h
  | succ n =>
    unfold lay at h
    rw [ht] at h
    split at h <;> try (simp at *; done)
    rename_i fs' parts hf
    injection hf with hf
    injection hf with hf
    subst hf
    exact ⟨n, parts, rfl, h⟩
end Go.Proofs.Ytjmafbiklebjcaa.Eng
