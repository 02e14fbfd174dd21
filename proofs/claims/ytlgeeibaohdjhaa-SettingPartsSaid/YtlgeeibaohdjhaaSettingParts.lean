/- SettingPartsSaid: whatever the input, the law SettingParts returns true and each argument reads as it did. No condition. -/
import Derived.Test.YtlgeeibaohdjhaaSettingXp
set_option linter.unusedVariables false
set_option linter.unusedSimpArgs false
namespace Go.Proofs.Ytlgeeibaohdjhaa
open Go.Proofs.Ytlgeeibaohdjhaa.Eng
open Go.ChangeShapes Go.WideShapes Go.ChangeAt Go.RowKit
namespace settingParts
set_option maxRecDepth 100000 in
theorem contract (H : Type) (enc : TypeId × Value → H) (W : World) (base : Nat) (args : Array Value) (ds gs : List (DataW H)) (before : List MemPlace)
    (hval : ∀ (j : Nat) t v, Try.f5.params[j]? = some t → args[j]? = some v → Value.okWide Try.prog W .any base t v)
    (hW : DataW.Whole enc Try.prog Try.f5.params.toList Rows.settingPartsSpec.vars false W args.toList ds gs before) :
    Calls Try.prog 5 args W fun e W' => ∃ v, e = .returned v ∧ Rows.settingPartsSpec.post enc Try.prog Try.f5 false true false false W args v W' := by
  refine contract_ofC (s := Rows.settingPartsSpec) (bt := 4) laidOut (by kernel_rfl) (by kernel_rfl) Try.underlying4 rfl (fun hlen => ?_) (fun xs τ hl => ?_) hval hW
  · rw [Try.params5] at hlen
    match ds, hlen with
    | [d1], _ => rfl
  · rw [Try.params5] at hl
    match ds, hl with
    | [d1], ⟨n, vs, σ', rest, h1, ⟨h3, h4⟩, h5⟩ =>
      obtain ⟨he, l, v, rfl, hsl, hv, hle⟩ := lay_stsV h1
      subst h3; subst h4; subst h5
      rw [arg36]
      obtain ⟨v, υ, h5, h6⟩ := law_SettingParts (k := l.length + 200) hsl hv hle (Nat.le_refl _)
      exact ⟨cl (l.length + 200), υ, cl_ok _, by rw [← h6]; exact h5⟩

set_option maxRecDepth 100000 in
theorem lifted (os : Os) (started : os.Started) (H : Type) (enc : TypeId × Value → H) :
    ReturnsInHanded {} Try.checked os 5 .any (Rows.settingPartsSpec.pre6 enc Try.prog Try.f5 Rows.settingPartsRow.domain false) (Rows.settingPartsSpec.post enc Try.prog Try.f5 false true false false) := by
  refine returnsInHanded_of_change (C := Try.checked) own started (by kernel_rfl) Try.func5
    (ChangeSpec.witness6 (enc := enc) (C := Try.checked) false ⟨#[], #[.slice none 0 0], []⟩ 8 (by kernel_rfl) (by kernel_rfl) (by kernel_rfl) (by kernel_rfl)) ?_
  intro W base args ds gs before hval hW _ _
  exact contract H enc W base args ds gs before hval hW

theorem proved : Rows.SettingPartsSaid :=
  OpenClaim.holds_of_wide 5 Try.f5 rfl rfl rfl rfl rfl rfl rfl ⟨rfl, rfl, rfl, rfl, rfl⟩ rfl rfl rfl rfl rfl (by kernel_rfl) Try.func5 (by kernel_rfl)
    (of_decide_eq_true (by kernel_rfl)) (by unfold Func.isWrapper; first | (rw [if_pos (by decide +kernel)]; kernel_rfl) | (rw [if_neg (by decide +kernel)]; exact ⟨rfl, rfl⟩))
    (fun os started H enc _ => lifted os started H enc)
end settingParts
#print axioms settingParts.proved
end Go.Proofs.Ytlgeeibaohdjhaa
