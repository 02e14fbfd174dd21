/- PrefixPutsSaid: whatever the input, the law PrefixPuts returns true and each argument reads as it did. No condition. -/
import Derived.Test.YtgpddhoidlpcaaaPrefixC
set_option linter.unusedVariables false
set_option linter.unusedSimpArgs false
namespace Go.Proofs.Ytgpddhoidlpcaaa
open Go.Proofs.Ytgpddhoidlpcaaa.Eng
open Go.ChangeShapes Go.WideShapes Go.ChangeAt Go.RowKit
namespace prefixPuts
set_option maxRecDepth 100000 in
theorem contract (H : Type) (enc : TypeId × Value → H) (W : World) (base : Nat) (args : Array Value) (ds gs : List (DataW H)) (before : List MemPlace)
    (hval : ∀ (j : Nat) t v, Try.f10.params[j]? = some t → args[j]? = some v → Value.okWide Try.prog W .any base t v)
    (hW : DataW.Whole enc Try.prog Try.f10.params.toList Rows.prefixPutsSpec.vars false W args.toList ds gs before) :
    Calls Try.prog 10 args W fun e W' => ∃ v, e = .returned v ∧ Rows.prefixPutsSpec.post enc Try.prog Try.f10 false true false false W args v W' := by
  refine contract_of (s := Rows.prefixPutsSpec) (bt := 4) mixed laidOut (by kernel_rfl) (by kernel_rfl) Try.underlying4 rfl (fun hlen => ?_) (fun xs τ hl => ?_) hval hW
  · rw [Try.params10] at hlen
    match ds, hlen with
    | [d1, d2, d3], _ => rfl
  · rw [Try.params10] at hl
    match ds, hl with
    | [d1, d2, d3], ⟨n, vs, σ', rest, h1, ⟨n2, vs2, σ'', rest2, h2, ⟨n3, vs3, σ3, rest3, h3, ⟨h4, h5⟩, h6⟩, h7⟩, h8⟩ =>
      obtain ⟨rfl, x, rfl, w1, _⟩ := lay_int Try.underlying5 h1
      obtain ⟨rfl, y, rfl, w2, _⟩ := lay_int Try.underlying3 h2
      obtain ⟨rfl, z, rfl, w3, _⟩ := lay_int Try.underlying3 h3
      subst h4; subst h5; subst h6; subst h7; subst h8
      rw [arg5, arg3, arg3]
      obtain ⟨a, rfl, ha⟩ := wf_u8 w1
      obtain ⟨v, υ, h5, h6⟩ := law_PrefixPuts (bits := y) (n := z) (k := bigP + 50) ha (Nat.le_refl _)
      exact ⟨_, υ, by rw [h5, h6]⟩

set_option maxRecDepth 100000 in
theorem lifted (os : Os) (started : os.Started) (H : Type) (enc : TypeId × Value → H) :
    ReturnsInHanded {} Try.checked os 10 .any (Rows.prefixPutsSpec.pre6 enc Try.prog Try.f10 Rows.prefixPutsRow.domain false) (Rows.prefixPutsSpec.post enc Try.prog Try.f10 false true false false) := by
  refine returnsInHanded_of_change (C := Try.checked) own started (by kernel_rfl) Try.func10
    (ChangeSpec.witness6 (enc := enc) (C := Try.checked) false ⟨#[], #[.int .u8 0, .int .i64 0, .int .i64 0], []⟩ 8 (by kernel_rfl) (by kernel_rfl) (by kernel_rfl) (by kernel_rfl)) ?_
  intro W base args ds gs before hval hW _ _
  exact contract H enc W base args ds gs before hval hW

theorem proved : Rows.PrefixPutsSaid :=
  OpenClaim.holds_of_wide 10 Try.f10 rfl rfl rfl rfl rfl rfl rfl ⟨rfl, rfl, rfl, rfl, rfl⟩ rfl rfl rfl rfl rfl (by kernel_rfl) Try.func10 (by kernel_rfl)
    (of_decide_eq_true (by kernel_rfl)) (by unfold Func.isWrapper; first | (rw [if_pos (by decide +kernel)]; kernel_rfl) | (rw [if_neg (by decide +kernel)]; exact ⟨rfl, rfl⟩))
    (fun os started H enc _ => lifted os started H enc)
end prefixPuts
#print axioms prefixPuts.proved
end Go.Proofs.Ytgpddhoidlpcaaa
