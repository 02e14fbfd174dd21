/- SettingValuesSaid: whatever the input, the law SettingValues returns true and each argument reads as it did. No condition. -/
import Derived.Test.YtlgeeibaohdjhaaSettingQ
set_option linter.unusedVariables false
set_option linter.unusedSimpArgs false
namespace Go.Proofs.Ytlgeeibaohdjhaa
open Go.Proofs.Ytlgeeibaohdjhaa.Eng
open Go.ChangeShapes Go.WideShapes Go.ChangeAt Go.RowKit
namespace settingValues
set_option maxRecDepth 100000 in
theorem contract (H : Type) (enc : TypeId × Value → H) (W : World) (base : Nat) (args : Array Value) (ds gs : List (DataW H)) (before : List MemPlace)
    (hval : ∀ (j : Nat) t v, Try.f4.params[j]? = some t → args[j]? = some v → Value.okWide Try.prog W .any base t v)
    (hW : DataW.Whole enc Try.prog Try.f4.params.toList Rows.settingValuesSpec.vars false W args.toList ds gs before) :
    Calls Try.prog 4 args W fun e W' => ∃ v, e = .returned v ∧ Rows.settingValuesSpec.post enc Try.prog Try.f4 false true false false W args v W' := by
  refine contract_ofC (s := Rows.settingValuesSpec) (bt := 4) laidOut (by kernel_rfl) (by kernel_rfl) Try.underlying4 rfl (fun hlen => ?_) (fun xs τ hl => ?_) hval hW
  · rw [Try.params4] at hlen
    match ds, hlen with
    | [d1], _ => rfl
  · rw [Try.params4] at hl
    match ds, hl with
    | [d1], ⟨n, vs, σ', rest, h1, ⟨h3, h4⟩, h5⟩ =>
      obtain ⟨he, l, v, rfl, hsl, hp, hle⟩ := lay_lists h1
      subst h3; subst h4; subst h5
      rw [arg28]
      obtain ⟨K, hK⟩ : ∃ K, K = maxLen + 200 := ⟨_, rfl⟩
      obtain ⟨v, υ, h5, h6⟩ := law_SettingValues (k := K) hsl hp hle (by omega)
      exact ⟨cl K, υ, cl_ok _, by rw [← h6]; exact h5⟩

set_option maxRecDepth 100000 in
theorem lifted (os : Os) (started : os.Started) (H : Type) (enc : TypeId × Value → H) :
    ReturnsInHanded {} Try.checked os 4 .any (Rows.settingValuesSpec.pre6 enc Try.prog Try.f4 Rows.settingValuesRow.domain false) (Rows.settingValuesSpec.post enc Try.prog Try.f4 false true false false) := by
  refine returnsInHanded_of_change (C := Try.checked) own started (by kernel_rfl) Try.func4
    (ChangeSpec.witness6 (enc := enc) (C := Try.checked) false ⟨#[], #[.slice none 0 0], []⟩ 8 (by kernel_rfl) (by kernel_rfl) (by kernel_rfl) (by kernel_rfl)) ?_
  intro W base args ds gs before hval hW _ _
  exact contract H enc W base args ds gs before hval hW

theorem proved : Rows.SettingValuesSaid :=
  OpenClaim.holds_of_wide 4 Try.f4 rfl rfl rfl rfl rfl rfl rfl ⟨rfl, rfl, rfl, rfl, rfl⟩ rfl rfl rfl rfl rfl (by kernel_rfl) Try.func4 (by kernel_rfl)
    (of_decide_eq_true (by kernel_rfl)) (by unfold Func.isWrapper; first | (rw [if_pos (by decide +kernel)]; kernel_rfl) | (rw [if_neg (by decide +kernel)]; exact ⟨rfl, rfl⟩))
    (fun os started H enc _ => lifted os started H enc)
end settingValues
#print axioms settingValues.proved
end Go.Proofs.Ytlgeeibaohdjhaa
