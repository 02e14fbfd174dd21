/- PrefixLeastUptoSaid: whatever the input of bulk at most 1048576, the law PrefixLeast returns true and each argument reads as it did. No condition but that bulk. -/
import Derived.Test.YtgpddhoidlpcaaaPrefixY
set_option linter.unusedVariables false
set_option linter.unusedSimpArgs false
namespace Go.Proofs.Ytgpddhoidlpcaaa
open Go.Proofs.Ytgpddhoidlpcaaa.Eng
open Go.ChangeShapes Go.WideShapes Go.ChangeAt Go.RowKit
namespace prefixLeast
set_option maxRecDepth 100000 in
theorem contract (H : Type) (enc : TypeId × Value → H) (W : World) (base : Nat) (args : Array Value) (ds gs : List (DataW H)) (before : List MemPlace)
    (hval : ∀ (j : Nat) t v, Try.f12.params[j]? = some t → args[j]? = some v → Value.okWide Try.prog W .any base t v)
    (hW : DataW.Whole enc Try.prog Try.f12.params.toList Rows.prefixLeastSpec.vars false W args.toList ds gs before) (hk : Rows.uptoSmall H (ds ++ gs) = true) :
    Calls Try.prog 12 args W fun e W' => ∃ v, e = .returned v ∧ Rows.prefixLeastSpec.post enc Try.prog Try.f12 false true false false W args v W' := by
  refine contract_of (s := Rows.prefixLeastSpec) (bt := 4) mixed laidOut (by kernel_rfl) (by kernel_rfl) Try.underlying4 rfl (fun hlen => ?_) (fun xs τ hl => ?_) hval hW
  · rw [Try.params12] at hlen
    match ds, hlen with
    | [d1, d2, d3], _ => rfl
  · rw [Try.params12] at hl
    match ds, hl with
    | [d1, d2, d3], ⟨n1, vs1, τ1, rest1, h1, ⟨n2, vs2, τ2, rest2, h2, ⟨n3, vs3, τ3, rest3, h3, ⟨g0, g1⟩, g2⟩, g3⟩, g4⟩ =>
      obtain ⟨rfl, x, rfl, w1, _⟩ := lay_int Try.underlying5 h1
      obtain ⟨rfl, y, rfl, w2, _⟩ := lay_int Try.underlying22 h2
      obtain ⟨rfl, s, rfl, hle⟩ := lay_text h3
      subst g0; subst g1; subst g2; subst g3; subst g4
      obtain ⟨a, rfl, ha⟩ := wf_u8 w1
      obtain ⟨b, rfl, hb2⟩ := wf_u32 w2
      have hb := bulks.bound hk
      simp only [List.cons_append, List.nil_append, Rows.uptoBulkAll] at hb
      rw [arg5, arg22, arg9]
      obtain ⟨v, υ, h5, h6⟩ := law_PrefixLeast (k := bigK + 100) (s := s) ha hb2 (by omega) (Nat.le_refl _)
      exact ⟨_, υ, by rw [h5, h6]⟩

set_option maxRecDepth 100000 in
theorem lifted (os : Os) (started : os.Started) (H : Type) (enc : TypeId × Value → H) (F : Stop.Interp) :
    ReturnsInHanded {} Try.checked os 12 .any ((Rows.OpenSpec.upto Rows.prefixLeastSpec).pre6 enc Try.prog Try.f12 Rows.prefixLeastUptoRow.domain false) (((Rows.OpenSpec.upto Rows.prefixLeastSpec).at F).post enc Try.prog Try.f12 false true false false) := by
  refine returnsInHanded_of_cond (C := Try.checked) (s := Rows.OpenSpec.upto Rows.prefixLeastSpec) (k := Rows.uptoSmall) rfl own started (by kernel_rfl) Try.func12
    (OpenSpec.witness (enc := enc) (C := Try.checked) (s := Rows.OpenSpec.upto Rows.prefixLeastSpec) (k := Rows.uptoSmall) rfl false ⟨#[], #[.int .u8 0, .int .u32 0, .string ⟨#[]⟩], []⟩ 8 (by kernel_rfl) (by kernel_rfl) (by kernel_rfl)
      (x := ([.lit (.int .u8 0), .lit (.int .u32 0), .lit (.string [])], [], [])) (by kernel_rfl) rfl (by kernel_rfl)) ?_
  intro W base args ds gs before hval hW _ hk _
  exact contract H enc W base args ds gs before hval hW hk

theorem over : Rows.prefixLeastUptoRow.holds Try.pinned (Rows.OpenSpec.upto Rows.prefixLeastSpec) :=
  OpenClaim.holds_of_cond 12 Try.f12 rfl rfl rfl rfl rfl rfl rfl ⟨rfl, rfl, rfl, rfl, rfl⟩ rfl rfl rfl rfl rfl (by kernel_rfl) Try.func12 (by kernel_rfl)
    (of_decide_eq_true (by kernel_rfl)) (by unfold Func.isWrapper; first | (rw [if_pos (by decide +kernel)]; kernel_rfl) | (rw [if_neg (by decide +kernel)]; exact ⟨rfl, rfl⟩))
    (fun os started H enc _ F => lifted os started H enc F)
theorem proved : Rows.PrefixLeastUptoSaid := over
end prefixLeast
#print axioms prefixLeast.proved
end Go.Proofs.Ytgpddhoidlpcaaa
