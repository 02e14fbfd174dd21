/- SettingChecksSaid: whatever the input, the law SettingChecks returns true and each argument reads as it did. No condition. -/
import Derived.Test.YtlgeeibaohdjhaaSettingXb
set_option linter.unusedVariables false
set_option linter.unusedSimpArgs false
namespace Go.Proofs.Ytlgeeibaohdjhaa
open Go.Proofs.Ytlgeeibaohdjhaa.Eng
open Go.ChangeShapes Go.WideShapes Go.ChangeAt Go.RowKit
namespace settingChecks
set_option maxRecDepth 100000 in
theorem contract (H : Type) (enc : TypeId × Value → H) (W : World) (base : Nat) (args : Array Value) (ds gs : List (DataW H)) (before : List MemPlace)
    (hval : ∀ (j : Nat) t v, Try.f3.params[j]? = some t → args[j]? = some v → Value.okWide Try.prog W .any base t v)
    (hW : DataW.Whole enc Try.prog Try.f3.params.toList Rows.settingChecksSpec.vars false W args.toList ds gs before) :
    Calls Try.prog 3 args W fun e W' => ∃ v, e = .returned v ∧ Rows.settingChecksSpec.post enc Try.prog Try.f3 false true false false W args v W' := by
  refine contract_ofC (s := Rows.settingChecksSpec) (bt := 4) laidOut (by kernel_rfl) (by kernel_rfl) Try.underlying4 rfl (fun hlen => ?_) (fun xs τ hl => ?_) hval hW
  · rw [Try.params3] at hlen
    match ds, hlen with
    | [d1], _ => rfl
  · rw [Try.params3] at hl
    match ds, hl with
    | [d1], ⟨n, vs, σ', rest, h1, ⟨h3, h4⟩, h5⟩ =>
      obtain ⟨rfl, x, rfl, hv⟩ := lay_st _ _ _ _ _ h1
      subst h3; subst h4; subst h5
      rw [arg24]
      obtain ⟨v, υ, h5, h6⟩ := law_SettingChecks (k := 100) (σ := ⟨.nil, 0⟩) (x := x.id) (y := x.val) (Nat.le_refl _) (by omega)
      exact ⟨cl 100, υ, cl_ok 100, by rw [← h6]; exact h5⟩

set_option maxRecDepth 100000 in
theorem lifted (os : Os) (started : os.Started) (H : Type) (enc : TypeId × Value → H) :
    ReturnsInHanded {} Try.checked os 3 .any (Rows.settingChecksSpec.pre6 enc Try.prog Try.f3 Rows.settingChecksRow.domain false) (Rows.settingChecksSpec.post enc Try.prog Try.f3 false true false false) := by
  refine returnsInHanded_of_change (C := Try.checked) own started (by kernel_rfl) Try.func3
    (ChangeSpec.witness6 (enc := enc) (C := Try.checked) false ⟨#[], #[.agg #[.int .i64 0, .int .u32 0]], []⟩ 8 (by kernel_rfl) (by kernel_rfl) (by kernel_rfl) (by kernel_rfl)) ?_
  intro W base args ds gs before hval hW _ _
  exact contract H enc W base args ds gs before hval hW

theorem proved : Rows.SettingChecksSaid :=
  OpenClaim.holds_of_wide 3 Try.f3 rfl rfl rfl rfl rfl rfl rfl ⟨rfl, rfl, rfl, rfl, rfl⟩ rfl rfl rfl rfl rfl (by kernel_rfl) Try.func3 (by kernel_rfl)
    (of_decide_eq_true (by kernel_rfl)) (by unfold Func.isWrapper; first | (rw [if_pos (by decide +kernel)]; kernel_rfl) | (rw [if_neg (by decide +kernel)]; exact ⟨rfl, rfl⟩))
    (fun os started H enc _ => lifted os started H enc)
end settingChecks
#print axioms settingChecks.proved
end Go.Proofs.Ytlgeeibaohdjhaa
