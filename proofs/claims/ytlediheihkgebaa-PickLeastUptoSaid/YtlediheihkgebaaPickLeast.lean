/- PickLeastUptoSaid: whatever the input of bulk at most 1048576, the law PickLeast returns true and each argument reads as it did. No condition but that bulk. -/
import Derived.Test.YtlediheihkgebaaPickC
set_option linter.unusedVariables false
set_option linter.unusedSimpArgs false
namespace Go.Proofs.Ytlediheihkgebaa
open Go.Proofs.Ytlediheihkgebaa.Eng
open Go.ChangeShapes Go.WideShapes Go.ChangeAt Go.RowKit
namespace pickLeast
theorem contract (H : Type) (enc : TypeId × Value → H) (W : World) (base : Nat) (args : Array Value) (ds gs : List (DataW H)) (before : List MemPlace)
    (hval : ∀ (j : Nat) t v, Try.f6.params[j]? = some t → args[j]? = some v → Value.okWide Try.prog W .any base t v)
    (hW : DataW.Whole enc Try.prog Try.f6.params.toList Rows.pickLeastSpec.vars false W args.toList ds gs before) (hk : Rows.uptoSmall H (ds ++ gs) = true) :
    Calls Try.prog 6 args W fun e W' => ∃ v, e = .returned v ∧ Rows.pickLeastSpec.post enc Try.prog Try.f6 false true false false W args v W' := by
  refine contract_of (s := Rows.pickLeastSpec) (bt := 4) mixed laidOut (by kernel_rfl) (by kernel_rfl) Try.underlying4 rfl (fun hlen => ?_) (fun xs τ hl => ?_) hval hW
  · rw [Try.params6] at hlen
    match ds, hlen with
    | [d1, d2], _ => rfl
  · rw [Try.params6] at hl
    match ds, hl with
    | [d1, d2], ⟨n, vs, σ', rest, h1, ⟨n2, vs2, σ'', rest2, h2, ⟨h3, h4⟩, h5⟩, h6⟩ =>
      obtain ⟨he, l, v, rfl, hsl, hle⟩ := lay_bks h1
      obtain ⟨rfl, draw, rfl, _, _⟩ := lay_int Try.underlying3 h2
      subst h3; subst h4; subst h5; subst h6
      have hb := bulks.bound hk
      simp only [List.cons_append, List.nil_append, Rows.uptoBulkAll] at hb
      have ha : argOf Try.prog 22 [v] = v := by unfold argOf; rw [Try.underlying22]; rfl
      have ha2 : argOf Try.prog 3 [.int .i64 draw] = .int .i64 draw := by unfold argOf; rw [Try.underlying3]; rfl
      rw [ha, ha2]
      obtain ⟨v, υ, h5, h6⟩ := law_PickLeast (draw := draw) (k := big + 50) hsl (by unfold big; omega) (Nat.le_refl _)
      exact ⟨_, υ, by rw [h5, h6]⟩

set_option maxRecDepth 100000 in
theorem lifted (os : Os) (started : os.Started) (H : Type) (enc : TypeId × Value → H) (F : Stop.Interp) :
    ReturnsInHanded {} Try.checked os 6 .any ((Rows.OpenSpec.upto Rows.pickLeastSpec).pre6 enc Try.prog Try.f6 Rows.pickLeastUptoRow.domain false) (((Rows.OpenSpec.upto Rows.pickLeastSpec).at F).post enc Try.prog Try.f6 false true false false) := by
  refine returnsInHanded_of_cond (C := Try.checked) (s := Rows.OpenSpec.upto Rows.pickLeastSpec) (k := Rows.uptoSmall) rfl own started (by kernel_rfl) Try.func6
    (OpenSpec.witness (enc := enc) (C := Try.checked) (s := Rows.OpenSpec.upto Rows.pickLeastSpec) (k := Rows.uptoSmall) rfl false ⟨#[], #[.slice none 0 0, .int .i64 0], []⟩ 8 (by kernel_rfl) (by kernel_rfl) (by kernel_rfl)
      (x := ([.nil, .lit (.int .i64 0)], [], [])) (by kernel_rfl) rfl (by kernel_rfl)) ?_
  intro W base args ds gs before hval hW _ hk _
  exact contract H enc W base args ds gs before hval hW hk

theorem over : Rows.pickLeastUptoRow.holds Try.pinned (Rows.OpenSpec.upto Rows.pickLeastSpec) :=
  OpenClaim.holds_of_cond 6 Try.f6 rfl rfl rfl rfl rfl rfl rfl ⟨rfl, rfl, rfl, rfl, rfl⟩ rfl rfl rfl rfl rfl (by kernel_rfl) Try.func6 (by kernel_rfl)
    (of_decide_eq_true (by kernel_rfl)) (by unfold Func.isWrapper; first | (rw [if_pos (by decide +kernel)]; kernel_rfl) | (rw [if_neg (by decide +kernel)]; exact ⟨rfl, rfl⟩))
    (fun os started H enc _ F => lifted os started H enc F)
theorem proved : Rows.PickLeastUptoSaid := over
end pickLeast
#print axioms pickLeast.proved
end Go.Proofs.Ytlediheihkgebaa
