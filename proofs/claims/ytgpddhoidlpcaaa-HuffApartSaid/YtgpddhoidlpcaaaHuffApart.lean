/- HuffApartSaid: whatever the input, the law HuffApart returns true and each argument reads as it did. No condition. -/
import Derived.Test.YtgpddhoidlpcaaaHuffX
set_option linter.unusedVariables false
set_option linter.unusedSimpArgs false
namespace Go.Proofs.Ytgpddhoidlpcaaa
open Go.Proofs.Ytgpddhoidlpcaaa.Eng
open Go.ChangeShapes Go.WideShapes Go.ChangeAt Go.RowKit
namespace huffApart
set_option maxRecDepth 100000 in
theorem contract (H : Type) (enc : TypeId × Value → H) (W : World) (base : Nat) (args : Array Value) (ds gs : List (DataW H)) (before : List MemPlace)
    (hval : ∀ (j : Nat) t v, Try.f4.params[j]? = some t → args[j]? = some v → Value.okWide Try.prog W .any base t v)
    (hW : DataW.Whole enc Try.prog Try.f4.params.toList Rows.huffApartSpec.vars false W args.toList ds gs before) :
    Calls Try.prog 4 args W fun e W' => ∃ v, e = .returned v ∧ Rows.huffApartSpec.post enc Try.prog Try.f4 false true false false W args v W' := by
  refine contract_of (s := Rows.huffApartSpec) (bt := 4) mixed laidOut (by kernel_rfl) (by kernel_rfl) Try.underlying4 rfl (fun hlen => ?_) (fun xs τ hl => ?_) hval hW
  · rw [Try.params4] at hlen
    match ds, hlen with
    | [d1, d2], _ => rfl
  · rw [Try.params4] at hl
    match ds, hl with
    | [d1, d2], ⟨n, vs, σ', rest, h1, ⟨n2, vs2, σ'', rest2, h2, ⟨h3, h4⟩, h5⟩, h6⟩ =>
      obtain ⟨rfl, x, rfl, w1, _⟩ := lay_int Try.underlying30 h1
      obtain ⟨rfl, y, rfl, w2, _⟩ := lay_int Try.underlying30 h2
      subst h3; subst h4; subst h5; subst h6
      rw [arg30, arg30]
      obtain ⟨a, rfl, ha⟩ := wf_u16 w1
      obtain ⟨b, rfl, hb⟩ := wf_u16 w2
      obtain ⟨v, υ, h5, h6⟩ := law_HuffApart (k := 1230) ha hb (Nat.le_refl _)
      exact ⟨_, υ, by rw [h5, h6]⟩

set_option maxRecDepth 100000 in
theorem lifted (os : Os) (started : os.Started) (H : Type) (enc : TypeId × Value → H) :
    ReturnsInHanded {} Try.checked os 4 .any (Rows.huffApartSpec.pre6 enc Try.prog Try.f4 Rows.huffApartRow.domain false) (Rows.huffApartSpec.post enc Try.prog Try.f4 false true false false) := by
  refine returnsInHanded_of_change (C := Try.checked) own started (by kernel_rfl) Try.func4
    (ChangeSpec.witness6 (enc := enc) (C := Try.checked) false ⟨#[], #[.int .u16 0, .int .u16 0], []⟩ 8 (by kernel_rfl) (by kernel_rfl) (by kernel_rfl) (by kernel_rfl)) ?_
  intro W base args ds gs before hval hW _ _
  exact contract H enc W base args ds gs before hval hW

theorem proved : Rows.HuffApartSaid :=
  OpenClaim.holds_of_wide 4 Try.f4 rfl rfl rfl rfl rfl rfl rfl ⟨rfl, rfl, rfl, rfl, rfl⟩ rfl rfl rfl rfl rfl (by kernel_rfl) Try.func4 (by kernel_rfl)
    (of_decide_eq_true (by kernel_rfl)) (by unfold Func.isWrapper; first | (rw [if_pos (by decide +kernel)]; kernel_rfl) | (rw [if_neg (by decide +kernel)]; exact ⟨rfl, rfl⟩))
    (fun os started H enc _ => lifted os started H enc)
end huffApart
#print axioms huffApart.proved
end Go.Proofs.Ytgpddhoidlpcaaa
