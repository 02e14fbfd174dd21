/- PrefixTextsUptoSaid: whatever the input of bulk at most 1048576, the law PrefixTexts returns true and each argument reads as it did. No condition but that bulk. -/
import Derived.Test.YtgpddhoidlpcaaaPrefixY
set_option linter.unusedVariables false
set_option linter.unusedSimpArgs false
namespace Go.Proofs.Ytgpddhoidlpcaaa
open Go.Proofs.Ytgpddhoidlpcaaa.Eng
open Go.ChangeShapes Go.WideShapes Go.ChangeAt Go.RowKit
namespace prefixTexts
set_option maxRecDepth 100000 in
theorem contract (H : Type) (enc : TypeId × Value → H) (W : World) (base : Nat) (args : Array Value) (ds gs : List (DataW H)) (before : List MemPlace)
    (hval : ∀ (j : Nat) t v, Try.f11.params[j]? = some t → args[j]? = some v → Value.okWide Try.prog W .any base t v)
    (hW : DataW.Whole enc Try.prog Try.f11.params.toList Rows.prefixTextsSpec.vars false W args.toList ds gs before) (hk : Rows.uptoSmall H (ds ++ gs) = true) :
    Calls Try.prog 11 args W fun e W' => ∃ v, e = .returned v ∧ Rows.prefixTextsSpec.post enc Try.prog Try.f11 false true false false W args v W' := by
  refine contract_of (s := Rows.prefixTextsSpec) (bt := 4) mixed laidOut (by kernel_rfl) (by kernel_rfl) Try.underlying4 rfl (fun hlen => ?_) (fun xs τ hl => ?_) hval hW
  · rw [Try.params11] at hlen
    match ds, hlen with
    | [d1, d2], _ => rfl
  · rw [Try.params11] at hl
    match ds, hl with
    | [d1, d2], ⟨n1, vs1, τ1, rest1, h1, ⟨n2, vs2, τ2, rest2, h2, ⟨g0, g1⟩, g2⟩, g3⟩ =>
      obtain ⟨rfl, s, rfl, hle⟩ := lay_text h1
      obtain ⟨rfl, b, rfl, _⟩ := lay_bool Try.underlying4 h2
      subst g0; subst g1; subst g2; subst g3
      have hb := bulks.bound hk
      simp only [List.cons_append, List.nil_append, Rows.uptoBulkAll] at hb
      rw [arg9, arg4]
      obtain ⟨v, υ, h5, h6⟩ := law_PrefixTexts (k := bigK + 100) (s := s) (sh := b) (by omega) (Nat.le_refl _)
      exact ⟨_, υ, by rw [h5, h6]⟩

set_option maxRecDepth 100000 in
theorem lifted (os : Os) (started : os.Started) (H : Type) (enc : TypeId × Value → H) (F : Stop.Interp) :
    ReturnsInHanded {} Try.checked os 11 .any ((Rows.OpenSpec.upto Rows.prefixTextsSpec).pre6 enc Try.prog Try.f11 Rows.prefixTextsUptoRow.domain false) (((Rows.OpenSpec.upto Rows.prefixTextsSpec).at F).post enc Try.prog Try.f11 false true false false) := by
  refine returnsInHanded_of_cond (C := Try.checked) (s := Rows.OpenSpec.upto Rows.prefixTextsSpec) (k := Rows.uptoSmall) rfl own started (by kernel_rfl) Try.func11
    (OpenSpec.witness (enc := enc) (C := Try.checked) (s := Rows.OpenSpec.upto Rows.prefixTextsSpec) (k := Rows.uptoSmall) rfl false ⟨#[], #[.string ⟨#[]⟩, .bool false], []⟩ 8 (by kernel_rfl) (by kernel_rfl) (by kernel_rfl)
      (x := ([.lit (.string []), .lit (.bool false)], [], [])) (by kernel_rfl) rfl (by kernel_rfl)) ?_
  intro W base args ds gs before hval hW _ hk _
  exact contract H enc W base args ds gs before hval hW hk

theorem over : Rows.prefixTextsUptoRow.holds Try.pinned (Rows.OpenSpec.upto Rows.prefixTextsSpec) :=
  OpenClaim.holds_of_cond 11 Try.f11 rfl rfl rfl rfl rfl rfl rfl ⟨rfl, rfl, rfl, rfl, rfl⟩ rfl rfl rfl rfl rfl (by kernel_rfl) Try.func11 (by kernel_rfl)
    (of_decide_eq_true (by kernel_rfl)) (by unfold Func.isWrapper; first | (rw [if_pos (by decide +kernel)]; kernel_rfl) | (rw [if_neg (by decide +kernel)]; exact ⟨rfl, rfl⟩))
    (fun os started H enc _ F => lifted os started H enc F)
theorem proved : Rows.PrefixTextsUptoSaid := over
end prefixTexts
#print axioms prefixTexts.proved
end Go.Proofs.Ytgpddhoidlpcaaa
