/- WindowZeroSaid: whatever the input, the law WindowZero returns true and each argument reads as it did. No condition. -/
import Derived.Test.YtlgeeibaohdjhaaWindowF
set_option linter.unusedVariables false
set_option linter.unusedSimpArgs false
namespace Go.Proofs.Ytlgeeibaohdjhaa
open Go.Proofs.Ytlgeeibaohdjhaa.Eng
open Go.ChangeShapes Go.WideShapes Go.ChangeAt Go.RowKit
namespace windowZero
set_option maxRecDepth 100000 in
theorem contract (H : Type) (enc : TypeId × Value → H) (W : World) (base : Nat) (args : Array Value) (ds gs : List (DataW H)) (before : List MemPlace)
    (hval : ∀ (j : Nat) t v, Try.f14.params[j]? = some t → args[j]? = some v → Value.okWide Try.prog W .any base t v)
    (hW : DataW.Whole enc Try.prog Try.f14.params.toList Rows.windowZeroSpec.vars false W args.toList ds gs before) :
    Calls Try.prog 14 args W fun e W' => ∃ v, e = .returned v ∧ Rows.windowZeroSpec.post enc Try.prog Try.f14 false true false false W args v W' := by
  refine contract_of (s := Rows.windowZeroSpec) (bt := 4) mixed laidOut (by kernel_rfl) (by kernel_rfl) Try.underlying4 rfl (fun hlen => ?_) (fun xs τ hl => ?_) hval hW
  · rw [Try.params14] at hlen
    match ds, hlen with
    | [d1], _ => rfl
  · rw [Try.params14] at hl
    match ds, hl with
    | [d1], ⟨n, vs, σ', rest, h1, ⟨h2, h3⟩, h4⟩ =>
      obtain ⟨rfl, x, rfl, w1, _⟩ := lay_int Try.underlying3 h1
      subst h2; subst h3; subst h4
      rw [arg3]
      obtain ⟨v, υ, h5, h6⟩ := law_WindowZero (σ := _) (n := x) (k := 50) (by omega)
      exact ⟨_, υ, by rw [h5, h6]⟩

set_option maxRecDepth 100000 in
theorem lifted (os : Os) (started : os.Started) (H : Type) (enc : TypeId × Value → H) :
    ReturnsInHanded {} Try.checked os 14 .any (Rows.windowZeroSpec.pre6 enc Try.prog Try.f14 Rows.windowZeroRow.domain false) (Rows.windowZeroSpec.post enc Try.prog Try.f14 false true false false) := by
  refine returnsInHanded_of_change (C := Try.checked) own started (by kernel_rfl) Try.func14
    (ChangeSpec.witness6 (enc := enc) (C := Try.checked) false ⟨#[], #[.int .i64 0], []⟩ 8 (by kernel_rfl) (by kernel_rfl) (by kernel_rfl) (by kernel_rfl)) ?_
  intro W base args ds gs before hval hW _ _
  exact contract H enc W base args ds gs before hval hW

theorem proved : Rows.WindowZeroSaid :=
  OpenClaim.holds_of_wide 14 Try.f14 rfl rfl rfl rfl rfl rfl rfl ⟨rfl, rfl, rfl, rfl, rfl⟩ rfl rfl rfl rfl rfl (by kernel_rfl) Try.func14 (by kernel_rfl)
    (of_decide_eq_true (by kernel_rfl)) (by unfold Func.isWrapper; first | (rw [if_pos (by decide +kernel)]; kernel_rfl) | (rw [if_neg (by decide +kernel)]; exact ⟨rfl, rfl⟩))
    (fun os started H enc _ => lifted os started H enc)
end windowZero
#print axioms windowZero.proved
end Go.Proofs.Ytlgeeibaohdjhaa
