/- HpackWritesUptoSaid: whatever the input of bulk at most 1048576, the law HpackWrites returns true and each argument reads as it did. No condition but that bulk. -/
import Derived.Test.YtjmafbiklebjcaaHpackX
set_option linter.unusedVariables false
set_option linter.unusedSimpArgs false
namespace Go.Proofs.Ytjmafbiklebjcaa
open Go.Proofs.Ytjmafbiklebjcaa.Eng
open Go.ChangeShapes Go.WideShapes Go.ChangeAt Go.RowKit
namespace hpackWrites
set_option maxRecDepth 100000 in
theorem contract (H : Type) (enc : TypeId × Value → H) (W : World) (base : Nat) (args : Array Value) (ds gs : List (DataW H)) (before : List MemPlace)
    (hval : ∀ (j : Nat) t v, Try.f3.params[j]? = some t → args[j]? = some v → Value.okWide Try.prog W .any base t v)
    (hW : DataW.Whole enc Try.prog Try.f3.params.toList Rows.hpackWritesSpec.vars false W args.toList ds gs before) (hk : Rows.uptoSmall H (ds ++ gs) = true) :
    Calls Try.prog 3 args W fun e W' => ∃ v, e = .returned v ∧ Rows.hpackWritesSpec.post enc Try.prog Try.f3 false true false false W args v W' := by
  refine contract_of (s := Rows.hpackWritesSpec) (bt := 4) mixed laidOut (by kernel_rfl) (by kernel_rfl) Try.underlying4 rfl (fun hlen => ?_) (fun xs τ hl => ?_) hval hW
  · rw [Try.params3] at hlen
    match ds, hlen with
    | [d1, d2], _ => rfl
  · rw [Try.params3] at hl
    match ds, hl with
    | [d1, d2], ⟨n, vs, σ', rest, h1, ⟨n2, vs2, σ'', rest2, h2, ⟨h3, h4⟩, h5⟩, h6⟩ =>
      have hb := bulks.bound hk
      simp only [List.cons_append, List.nil_append, Rows.uptoBulkAll] at hb
      obtain ⟨rfl, x, rfl, w1, _⟩ := lay_int Try.underlying3 h1
      obtain ⟨he, l, v, rfl, hsl, hle, hw⟩ := lay_ops h2 (by omega)
      subst h3; subst h4; subst h5; subst h6
      rw [arg3, arg22]
      obtain ⟨v, υ, h5, h6⟩ := law_HpackWrites (k := bigK + 500) (most := x) hsl hw hle (Nat.le_refl _)
      exact ⟨_, υ, by rw [h5, h6]⟩

set_option maxRecDepth 100000 in
theorem lifted (os : Os) (started : os.Started) (H : Type) (enc : TypeId × Value → H) (F : Stop.Interp) :
    ReturnsInHanded {} Try.checked os 3 .any ((Rows.OpenSpec.upto Rows.hpackWritesSpec).pre6 enc Try.prog Try.f3 Rows.hpackWritesUptoRow.domain false) (((Rows.OpenSpec.upto Rows.hpackWritesSpec).at F).post enc Try.prog Try.f3 false true false false) := by
  refine returnsInHanded_of_cond (C := Try.checked) (s := Rows.OpenSpec.upto Rows.hpackWritesSpec) (k := Rows.uptoSmall) rfl own started (by kernel_rfl) Try.func3
    (OpenSpec.witness (enc := enc) (C := Try.checked) (s := Rows.OpenSpec.upto Rows.hpackWritesSpec) (k := Rows.uptoSmall) rfl false ⟨#[], #[.int .i64 0, .slice none 0 0], []⟩ 8 (by kernel_rfl) (by kernel_rfl) (by kernel_rfl)
      (x := ([.lit (.int .i64 0), .nil], [], [])) (by kernel_rfl) rfl (by kernel_rfl)) ?_
  intro W base args ds gs before hval hW _ hk _
  exact contract H enc W base args ds gs before hval hW hk

theorem over : Rows.hpackWritesUptoRow.holds Try.pinned (Rows.OpenSpec.upto Rows.hpackWritesSpec) :=
  OpenClaim.holds_of_cond 3 Try.f3 rfl rfl rfl rfl rfl rfl rfl ⟨rfl, rfl, rfl, rfl, rfl⟩ rfl rfl rfl rfl rfl (by kernel_rfl) Try.func3 (by kernel_rfl)
    (of_decide_eq_true (by kernel_rfl)) (by unfold Func.isWrapper; first | (rw [if_pos (by decide +kernel)]; kernel_rfl) | (rw [if_neg (by decide +kernel)]; exact ⟨rfl, rfl⟩))
    (fun os started H enc _ F => lifted os started H enc F)
theorem proved : Rows.HpackWritesUptoSaid := over
end hpackWrites
#print axioms hpackWrites.proved
end Go.Proofs.Ytjmafbiklebjcaa
