/- PrefixBackUptoSaid: whatever the input of bulk at most 1048576, the law PrefixBack returns true and each argument reads as it did. No condition but that bulk. -/
import Derived.Test.YtgpddhoidlpcaaaPrefixY
set_option linter.unusedVariables false
set_option linter.unusedSimpArgs false
namespace Go.Proofs.Ytgpddhoidlpcaaa
open Go.Proofs.Ytgpddhoidlpcaaa.Eng
open Go.ChangeShapes Go.WideShapes Go.ChangeAt Go.RowKit
namespace prefixBack
set_option maxRecDepth 100000 in
theorem contract (H : Type) (enc : TypeId × Value → H) (W : World) (base : Nat) (args : Array Value) (ds gs : List (DataW H)) (before : List MemPlace)
    (hval : ∀ (j : Nat) t v, Try.f13.params[j]? = some t → args[j]? = some v → Value.okWide Try.prog W .any base t v)
    (hW : DataW.Whole enc Try.prog Try.f13.params.toList Rows.prefixBackSpec.vars false W args.toList ds gs before) (hk : Rows.uptoSmall H (ds ++ gs) = true) :
    Calls Try.prog 13 args W fun e W' => ∃ v, e = .returned v ∧ Rows.prefixBackSpec.post enc Try.prog Try.f13 false true false false W args v W' := by
  refine contract_of (s := Rows.prefixBackSpec) (bt := 4) mixed laidOut (by kernel_rfl) (by kernel_rfl) Try.underlying4 rfl (fun hlen => ?_) (fun xs τ hl => ?_) hval hW
  · rw [Try.params13] at hlen
    match ds, hlen with
    | [d1, d2, d3, d4, d5, d6], _ => rfl
  · rw [Try.params13] at hl
    match ds, hl with
    | [d1, d2, d3, d4, d5, d6], ⟨n1, vs1, τ1, rest1, h1, ⟨n2, vs2, τ2, rest2, h2, ⟨n3, vs3, τ3, rest3, h3, ⟨n4, vs4, τ4, rest4, h4, ⟨n5, vs5, τ5, rest5, h5, ⟨n6, vs6, τ6, rest6, h6, ⟨g0, g1⟩, g2⟩, g3⟩, g4⟩, g5⟩, g6⟩, g7⟩ =>
      obtain ⟨he1, l1, v1, rfl, hs1, hle1⟩ := lay_bytes h1
      obtain ⟨he2, l2, v2, rfl, hs2, hle2⟩ := lay_bytes h2
      obtain ⟨rfl, x, rfl, w1, _⟩ := lay_int Try.underlying5 h3
      obtain ⟨rfl, y, rfl, w2, _⟩ := lay_int Try.underlying5 h4
      obtain ⟨rfl, z, rfl, w3, _⟩ := lay_int Try.underlying22 h5
      obtain ⟨rfl, s, rfl, hle⟩ := lay_text h6
      subst g0; subst g1; subst g2; subst g3; subst g4; subst g5; subst g6; subst g7
      obtain ⟨a, rfl, ha⟩ := wf_u8 w1
      obtain ⟨b, rfl, hb2⟩ := wf_u8 w2
      obtain ⟨c, rfl, hc⟩ := wf_u32 w3
      have hb := bulks.bound hk
      simp only [List.cons_append, List.nil_append, Rows.uptoBulkAll] at hb
      rw [arg33, arg33, arg5, arg5, arg22, arg9]
      obtain ⟨v, υ, h5, h6⟩ := law_PrefixBack (k := bigK + 100) (s := s) (hs1.ext he2) hs2 ha hb2 hc (by omega) (by omega) (Nat.le_refl _)
      exact ⟨_, υ, by rw [h5, h6]⟩

set_option maxRecDepth 100000 in
theorem lifted (os : Os) (started : os.Started) (H : Type) (enc : TypeId × Value → H) (F : Stop.Interp) :
    ReturnsInHanded {} Try.checked os 13 .any ((Rows.OpenSpec.upto Rows.prefixBackSpec).pre6 enc Try.prog Try.f13 Rows.prefixBackUptoRow.domain false) (((Rows.OpenSpec.upto Rows.prefixBackSpec).at F).post enc Try.prog Try.f13 false true false false) := by
  refine returnsInHanded_of_cond (C := Try.checked) (s := Rows.OpenSpec.upto Rows.prefixBackSpec) (k := Rows.uptoSmall) rfl own started (by kernel_rfl) Try.func13
    (OpenSpec.witness (enc := enc) (C := Try.checked) (s := Rows.OpenSpec.upto Rows.prefixBackSpec) (k := Rows.uptoSmall) rfl false ⟨#[], #[.slice none 0 0, .slice none 0 0, .int .u8 0, .int .u8 0, .int .u32 0, .string ⟨#[]⟩], []⟩ 8 (by kernel_rfl) (by kernel_rfl) (by kernel_rfl)
      (x := ([.nil, .nil, .lit (.int .u8 0), .lit (.int .u8 0), .lit (.int .u32 0), .lit (.string [])], [], [])) (by kernel_rfl) rfl (by kernel_rfl)) ?_
  intro W base args ds gs before hval hW _ hk _
  exact contract H enc W base args ds gs before hval hW hk

theorem over : Rows.prefixBackUptoRow.holds Try.pinned (Rows.OpenSpec.upto Rows.prefixBackSpec) :=
  OpenClaim.holds_of_cond 13 Try.f13 rfl rfl rfl rfl rfl rfl rfl ⟨rfl, rfl, rfl, rfl, rfl⟩ rfl rfl rfl rfl rfl (by kernel_rfl) Try.func13 (by kernel_rfl)
    (of_decide_eq_true (by kernel_rfl)) (by unfold Func.isWrapper; first | (rw [if_pos (by decide +kernel)]; kernel_rfl) | (rw [if_neg (by decide +kernel)]; exact ⟨rfl, rfl⟩))
    (fun os started H enc _ F => lifted os started H enc F)
theorem proved : Rows.PrefixBackUptoSaid := over
end prefixBack
#print axioms prefixBack.proved
end Go.Proofs.Ytgpddhoidlpcaaa
