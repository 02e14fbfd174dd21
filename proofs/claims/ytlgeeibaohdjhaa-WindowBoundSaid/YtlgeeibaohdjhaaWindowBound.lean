/- WindowBoundSaid: whatever the input, the law WindowBound returns true and each argument reads as it did. No condition. -/
import Derived.Test.YtlgeeibaohdjhaaWindowF
set_option linter.unusedVariables false
set_option linter.unusedSimpArgs false
namespace Go.Proofs.Ytlgeeibaohdjhaa
open Go.Proofs.Ytlgeeibaohdjhaa.Eng
open Go.ChangeShapes Go.WideShapes Go.ChangeAt Go.RowKit
namespace windowBound
set_option maxRecDepth 100000 in
theorem contract (H : Type) (enc : TypeId × Value → H) (W : World) (base : Nat) (args : Array Value) (ds gs : List (DataW H)) (before : List MemPlace)
    (hval : ∀ (j : Nat) t v, Try.f10.params[j]? = some t → args[j]? = some v → Value.okWide Try.prog W .any base t v)
    (hW : DataW.Whole enc Try.prog Try.f10.params.toList Rows.windowBoundSpec.vars false W args.toList ds gs before) :
    Calls Try.prog 10 args W fun e W' => ∃ v, e = .returned v ∧ Rows.windowBoundSpec.post enc Try.prog Try.f10 false true false false W args v W' := by
  refine contract_of (s := Rows.windowBoundSpec) (bt := 4) mixed laidOut (by kernel_rfl) (by kernel_rfl) Try.underlying4 rfl (fun hlen => ?_) (fun xs τ hl => ?_) hval hW
  · rw [Try.params10] at hlen
    match ds, hlen with
    | [d1, d2], _ => rfl
  · rw [Try.params10] at hl
    match ds, hl with
    | [d1, d2], ⟨n, vs, σ', rest, h1, ⟨n2, vs2, σ'', rest2, h2, ⟨h3, h4⟩, h5⟩, h6⟩ =>
      obtain ⟨rfl, x, rfl, w1, _⟩ := lay_int Try.underlying22 h1
      obtain ⟨he, l, v, rfl, hsl, hle⟩ := lay_ops h2
      subst h3; subst h4; subst h5; subst h6
      rw [arg22, arg63]
      obtain ⟨v, υ, h5, h6⟩ := law_WindowBound (m := x) (k := big + 50) hsl hle (wf_u32 w1).1 (wf_u32 w1).2 (Nat.le_refl _)
      exact ⟨_, υ, by rw [h5, h6]⟩

set_option maxRecDepth 100000 in
theorem lifted (os : Os) (started : os.Started) (H : Type) (enc : TypeId × Value → H) :
    ReturnsInHanded {} Try.checked os 10 .any (Rows.windowBoundSpec.pre6 enc Try.prog Try.f10 Rows.windowBoundRow.domain false) (Rows.windowBoundSpec.post enc Try.prog Try.f10 false true false false) := by
  refine returnsInHanded_of_change (C := Try.checked) own started (by kernel_rfl) Try.func10
    (ChangeSpec.witness6 (enc := enc) (C := Try.checked) false ⟨#[], #[.int .u32 0, .slice none 0 0], []⟩ 8 (by kernel_rfl) (by kernel_rfl) (by kernel_rfl) (by kernel_rfl)) ?_
  intro W base args ds gs before hval hW _ _
  exact contract H enc W base args ds gs before hval hW

theorem proved : Rows.WindowBoundSaid :=
  OpenClaim.holds_of_wide 10 Try.f10 rfl rfl rfl rfl rfl rfl rfl ⟨rfl, rfl, rfl, rfl, rfl⟩ rfl rfl rfl rfl rfl (by kernel_rfl) Try.func10 (by kernel_rfl)
    (of_decide_eq_true (by kernel_rfl)) (by unfold Func.isWrapper; first | (rw [if_pos (by decide +kernel)]; kernel_rfl) | (rw [if_neg (by decide +kernel)]; exact ⟨rfl, rfl⟩))
    (fun os started H enc _ => lifted os started H enc)
end windowBound
#print axioms windowBound.proved
end Go.Proofs.Ytlgeeibaohdjhaa
