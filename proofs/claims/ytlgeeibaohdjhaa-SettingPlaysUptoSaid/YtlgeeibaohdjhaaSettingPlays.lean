/- SettingPlaysUptoSaid: whatever the input of bulk at most 1048576, the law SettingPlays returns true and each argument reads as it did. No condition but that bulk. -/
import Derived.Test.YtlgeeibaohdjhaaSettingXw
set_option linter.unusedVariables false
set_option linter.unusedSimpArgs false
namespace Go.Proofs.Ytlgeeibaohdjhaa
open Go.Proofs.Ytlgeeibaohdjhaa.Eng
open Go.ChangeShapes Go.WideShapes Go.ChangeAt Go.RowKit
namespace settingPlays
set_option maxRecDepth 100000 in
theorem contract (H : Type) (enc : TypeId × Value → H) (W : World) (base : Nat) (args : Array Value) (ds gs : List (DataW H)) (before : List MemPlace)
    (hval : ∀ (j : Nat) t v, Try.f8.params[j]? = some t → args[j]? = some v → Value.okWide Try.prog W .any base t v)
    (hW : DataW.Whole enc Try.prog Try.f8.params.toList Rows.settingPlaysSpec.vars false W args.toList ds gs before) (hk : Rows.uptoSmall H (ds ++ gs) = true) :
    Calls Try.prog 8 args W fun e W' => ∃ v, e = .returned v ∧ Rows.settingPlaysSpec.post enc Try.prog Try.f8 false true false false W args v W' := by
  refine contract_ofC (s := Rows.settingPlaysSpec) (bt := 4) laidOut (by kernel_rfl) (by kernel_rfl) Try.underlying4 rfl (fun hlen => ?_) (fun xs τ hl => ?_) hval hW
  · rw [Try.params8] at hlen
    match ds, hlen with
    | [d1], _ => rfl
  · rw [Try.params8] at hl
    match ds, hl with
    | [d1], ⟨n, vs, σ', rest, h1, ⟨h3, h4⟩, h5⟩ =>
      obtain ⟨he, l, v, rfl, hsl, hp, hle⟩ := lay_ops9 h1
      subst h3; subst h4; subst h5
      have hb := bulks.bound hk
      simp only [List.cons_append, List.nil_append, Rows.uptoBulkAll] at hb
      rw [arg51]
      obtain ⟨K, hK⟩ : ∃ K, K = 1048576 + 200 := ⟨_, rfl⟩
      obtain ⟨v, υ, h5, h6⟩ := law_SettingPlays (k := K) hsl (fun o ho => ⟨(hp o ho).1, by have := (hp o ho).2; omega⟩) (by omega) (by omega)
      exact ⟨cl K, υ, cl_ok _, by rw [← h6]; exact h5⟩

set_option maxRecDepth 100000 in
theorem lifted (os : Os) (started : os.Started) (H : Type) (enc : TypeId × Value → H) (F : Stop.Interp) :
    ReturnsInHanded {} Try.checked os 8 .any ((Rows.OpenSpec.upto Rows.settingPlaysSpec).pre6 enc Try.prog Try.f8 Rows.settingPlaysUptoRow.domain false) (((Rows.OpenSpec.upto Rows.settingPlaysSpec).at F).post enc Try.prog Try.f8 false true false false) := by
  refine returnsInHanded_of_cond (C := Try.checked) (s := Rows.OpenSpec.upto Rows.settingPlaysSpec) (k := Rows.uptoSmall) rfl own started (by kernel_rfl) Try.func8
    (OpenSpec.witness (enc := enc) (C := Try.checked) (s := Rows.OpenSpec.upto Rows.settingPlaysSpec) (k := Rows.uptoSmall) rfl false ⟨#[], #[.slice none 0 0], []⟩ 8 (by kernel_rfl) (by kernel_rfl) (by kernel_rfl)
      (x := ([.nil], [], [])) (by kernel_rfl) rfl (by kernel_rfl)) ?_
  intro W base args ds gs before hval hW _ hk _
  exact contract H enc W base args ds gs before hval hW hk

theorem over : Rows.settingPlaysUptoRow.holds Try.pinned (Rows.OpenSpec.upto Rows.settingPlaysSpec) :=
  OpenClaim.holds_of_cond 8 Try.f8 rfl rfl rfl rfl rfl rfl rfl ⟨rfl, rfl, rfl, rfl, rfl⟩ rfl rfl rfl rfl rfl (by kernel_rfl) Try.func8 (by kernel_rfl)
    (of_decide_eq_true (by kernel_rfl)) (by unfold Func.isWrapper; first | (rw [if_pos (by decide +kernel)]; kernel_rfl) | (rw [if_neg (by decide +kernel)]; exact ⟨rfl, rfl⟩))
    (fun os started H enc _ F => lifted os started H enc F)
theorem proved : Rows.SettingPlaysUptoSaid := over
end settingPlays
#print axioms settingPlays.proved
end Go.Proofs.Ytlgeeibaohdjhaa
