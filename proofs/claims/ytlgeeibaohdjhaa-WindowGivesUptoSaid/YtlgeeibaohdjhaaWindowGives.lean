/- WindowGivesUptoSaid: whatever the input of bulk at most 1048576, the law WindowGives returns true and each argument reads as it did. No condition but that bulk. -/
import Derived.Test.YtlgeeibaohdjhaaWindowF
set_option linter.unusedVariables false
set_option linter.unusedSimpArgs false
namespace Go.Proofs.Ytlgeeibaohdjhaa
open Go.Proofs.Ytlgeeibaohdjhaa.Eng
open Go.ChangeShapes Go.WideShapes Go.ChangeAt Go.RowKit
namespace windowGives
set_option maxRecDepth 100000 in
theorem contract (H : Type) (enc : TypeId × Value → H) (W : World) (base : Nat) (args : Array Value) (ds gs : List (DataW H)) (before : List MemPlace)
    (hval : ∀ (j : Nat) t v, Try.f13.params[j]? = some t → args[j]? = some v → Value.okWide Try.prog W .any base t v)
    (hW : DataW.Whole enc Try.prog Try.f13.params.toList Rows.windowGivesSpec.vars false W args.toList ds gs before) (hk : Rows.uptoSmall H (ds ++ gs) = true) :
    Calls Try.prog 13 args W fun e W' => ∃ v, e = .returned v ∧ Rows.windowGivesSpec.post enc Try.prog Try.f13 false true false false W args v W' := by
  refine contract_of (s := Rows.windowGivesSpec) (bt := 4) mixed laidOut (by kernel_rfl) (by kernel_rfl) Try.underlying4 rfl (fun hlen => ?_) (fun xs τ hl => ?_) hval hW
  · rw [Try.params13] at hlen
    match ds, hlen with
    | [d1, d2], _ => rfl
  · rw [Try.params13] at hl
    match ds, hl with
    | [d1, d2], ⟨n, vs, σ', rest, h1, ⟨n2, vs2, σ'', rest2, h2, ⟨h3, h4⟩, h5⟩, h6⟩ =>
      obtain ⟨rfl, x, rfl, w1, _⟩ := lay_int Try.underlying78 h1
      obtain ⟨he, l, v, rfl, hsl, hle⟩ := lay_us h2
      subst h3; subst h4; subst h5; subst h6
      have hb := bulks.bound hk
      simp only [List.cons_append, List.nil_append, Rows.uptoBulkAll] at hb
      rw [arg78, arg88]
      obtain ⟨v, υ, h5, h6⟩ := law_WindowGives (m := x) (k := 4194304 + 50) hsl (by omega) (wf_u16 w1).1 (wf_u16 w1).2 (Nat.le_refl _)
      exact ⟨_, υ, by rw [h5, h6]⟩

set_option maxRecDepth 100000 in
theorem lifted (os : Os) (started : os.Started) (H : Type) (enc : TypeId × Value → H) (F : Stop.Interp) :
    ReturnsInHanded {} Try.checked os 13 .any ((Rows.OpenSpec.upto Rows.windowGivesSpec).pre6 enc Try.prog Try.f13 Rows.windowGivesUptoRow.domain false) (((Rows.OpenSpec.upto Rows.windowGivesSpec).at F).post enc Try.prog Try.f13 false true false false) := by
  refine returnsInHanded_of_cond (C := Try.checked) (s := Rows.OpenSpec.upto Rows.windowGivesSpec) (k := Rows.uptoSmall) rfl own started (by kernel_rfl) Try.func13
    (OpenSpec.witness (enc := enc) (C := Try.checked) (s := Rows.OpenSpec.upto Rows.windowGivesSpec) (k := Rows.uptoSmall) rfl false ⟨#[], #[.int .u16 0, .slice none 0 0], []⟩ 8 (by kernel_rfl) (by kernel_rfl) (by kernel_rfl)
      (x := ([.lit (.int .u16 0), .nil], [], [])) (by kernel_rfl) rfl (by kernel_rfl)) ?_
  intro W base args ds gs before hval hW _ hk _
  exact contract H enc W base args ds gs before hval hW hk

theorem over : Rows.windowGivesUptoRow.holds Try.pinned (Rows.OpenSpec.upto Rows.windowGivesSpec) :=
  OpenClaim.holds_of_cond 13 Try.f13 rfl rfl rfl rfl rfl rfl rfl ⟨rfl, rfl, rfl, rfl, rfl⟩ rfl rfl rfl rfl rfl (by kernel_rfl) Try.func13 (by kernel_rfl)
    (of_decide_eq_true (by kernel_rfl)) (by unfold Func.isWrapper; first | (rw [if_pos (by decide +kernel)]; kernel_rfl) | (rw [if_neg (by decide +kernel)]; exact ⟨rfl, rfl⟩))
    (fun os started H enc _ F => lifted os started H enc F)
theorem proved : Rows.WindowGivesUptoSaid := over
end windowGives
#print axioms windowGives.proved
end Go.Proofs.Ytlgeeibaohdjhaa
