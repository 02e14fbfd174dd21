/- SettingZeroSaid: whatever the input, the law SettingZero returns true and each argument reads as it did. No condition. -/
import Derived.Test.YtlgeeibaohdjhaaSettingX
set_option linter.unusedVariables false
set_option linter.unusedSimpArgs false
namespace Go.Proofs.Ytlgeeibaohdjhaa
open Go.Proofs.Ytlgeeibaohdjhaa.Eng
open Go.ChangeShapes Go.WideShapes Go.ChangeAt Go.RowKit
namespace settingZero
set_option maxRecDepth 100000 in
theorem contract (H : Type) (enc : TypeId × Value → H) (W : World) (base : Nat) (args : Array Value) (ds gs : List (DataW H)) (before : List MemPlace)
    (hval : ∀ (j : Nat) t v, Try.f7.params[j]? = some t → args[j]? = some v → Value.okWide Try.prog W .any base t v)
    (hW : DataW.Whole enc Try.prog Try.f7.params.toList Rows.settingZeroSpec.vars false W args.toList ds gs before) :
    Calls Try.prog 7 args W fun e W' => ∃ v, e = .returned v ∧ Rows.settingZeroSpec.post enc Try.prog Try.f7 false true false false W args v W' := by
  refine contract_of (s := Rows.settingZeroSpec) (bt := 4) mixed laidOut (by kernel_rfl) (by kernel_rfl) Try.underlying4 rfl (fun hlen => ?_) (fun xs τ hl => ?_) hval hW
  · rw [Try.params7] at hlen
    match ds, hlen with
    | [d1, d2], _ => rfl
  · rw [Try.params7] at hl
    match ds, hl with
    | [d1, d2], ⟨n, vs, σ', rest, h1, ⟨n2, vs2, σ'', rest2, h2, ⟨h3, h4⟩, h5⟩, h6⟩ =>
      obtain ⟨he, l, v, rfl, hsl, hle⟩ := lay_sts h1
      obtain ⟨rfl, x, rfl, w1, _⟩ := lay_int Try.underlying3 h2
      subst h3; subst h4; subst h5; subst h6
      rw [arg36, arg3]
      obtain ⟨v, υ, h5, h6⟩ := law_SettingZero (k := 100) (x := v) (id := x) (Nat.le_refl _)
      exact ⟨_, υ, by rw [h5, h6]⟩

set_option maxRecDepth 100000 in
theorem lifted (os : Os) (started : os.Started) (H : Type) (enc : TypeId × Value → H) :
    ReturnsInHanded {} Try.checked os 7 .any (Rows.settingZeroSpec.pre6 enc Try.prog Try.f7 Rows.settingZeroRow.domain false) (Rows.settingZeroSpec.post enc Try.prog Try.f7 false true false false) := by
  refine returnsInHanded_of_change (C := Try.checked) own started (by kernel_rfl) Try.func7
    (ChangeSpec.witness6 (enc := enc) (C := Try.checked) false ⟨#[], #[.slice none 0 0, .int .i64 0], []⟩ 8 (by kernel_rfl) (by kernel_rfl) (by kernel_rfl) (by kernel_rfl)) ?_
  intro W base args ds gs before hval hW _ _
  exact contract H enc W base args ds gs before hval hW

theorem proved : Rows.SettingZeroSaid :=
  OpenClaim.holds_of_wide 7 Try.f7 rfl rfl rfl rfl rfl rfl rfl ⟨rfl, rfl, rfl, rfl, rfl⟩ rfl rfl rfl rfl rfl (by kernel_rfl) Try.func7 (by kernel_rfl)
    (of_decide_eq_true (by kernel_rfl)) (by unfold Func.isWrapper; first | (rw [if_pos (by decide +kernel)]; kernel_rfl) | (rw [if_neg (by decide +kernel)]; exact ⟨rfl, rfl⟩))
    (fun os started H enc _ => lifted os started H enc)
end settingZero
#print axioms settingZero.proved
end Go.Proofs.Ytlgeeibaohdjhaa
