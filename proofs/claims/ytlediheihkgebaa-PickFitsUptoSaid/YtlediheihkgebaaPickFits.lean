/- PickFitsUptoSaid: whatever the input of bulk at most 1048576, aqueductlaw18.PickFits returns true and the input reads as it did. No condition but that bulk. -/
import Derived.Test.YtlediheihkgebaaPick
import Derived.Test.YtlediheihkgebaaEngU
import Derived.Test.YtlediheihkgebaaBulk
import Derived.WalkKit
import Derived.OpenShut
set_option linter.unusedVariables false
set_option linter.unusedSimpArgs false
namespace Go.Proofs.Ytlediheihkgebaa
open Go.Proofs.Ytlediheihkgebaa.Eng
open Go.ChangeShapes Go.WideShapes Go.ChangeAt Go.RowKit

theorem own : ownKnob Try.prog.godebug = none := by kernel_rfl
theorem laidOut : laidOutB Try.prog = true := by kernel_rfl
theorem mixed : Try.prog.follows .mixedOrders = true := by kernel_rfl

theorem lay_bk {H : Type} (m : Nat) (d : DataW H) (σ : AW) (vs : List Value) (τ : AW) (h : lay Try.prog m 35 d σ = some (vs, τ)) : τ = σ ∧ ∃ b : Bk, vs = b.cs := by
  obtain ⟨m', parts, e0, g0⟩ := lay_struct Try.underlying35 h
  simp only [List.map_cons, List.map_nil] at g0
  obtain ⟨d1, ds1, u1, w1, σ1, e1, h1, g1, k1⟩ := layFields_cons g0
  obtain ⟨d2, ds2, u2, w2, σ2, e2, h2, g2, k2⟩ := layFields_cons g1
  obtain ⟨d3, ds3, u3, w3, σ3, e3, h3, g3, k3⟩ := layFields_cons g2
  obtain ⟨e4, k4, s4⟩ := layFields_nil g3
  obtain ⟨s1, b, l1, _⟩ := lay_bool Try.underlying4 h1
  obtain ⟨s2, x, l2, _, _⟩ := lay_int Try.underlying3 h2
  obtain ⟨s3, y, l3, _, _⟩ := lay_int Try.underlying3 h3
  exact ⟨s4.trans (s3.trans (s2.trans s1)), ⟨b, x, y⟩, by rw [k1, k2, k3, k4, l1, l2, l3]; rfl⟩
theorem lay_bks {H : Type} {n : Nat} {d : DataW H} {σ τ : AW} {vs : List Value} (h : lay Try.prog n 22 d σ = some (vs, τ)) : Ext σ τ ∧ ∃ (l : List Bk) (v : Value), vs = [v] ∧ Sl τ v 3 l.length (l.flatMap Bk.cs) ∧ l.length ≤ Rows.uptoBulk d := by
  obtain ⟨he, l, v, rfl, hsl, hd⟩ := lay_slice (cs := Bk.cs) (z := 3) Try.underlying22 (by kernel_rfl) Bk.len lay_bk h
  refine ⟨he, l, v, rfl, hsl, ?_⟩
  rcases hd with ⟨rfl, rfl⟩ | ⟨elems, spare, rfl, hl⟩
  · simp
  · have := bulks.slice_le elems spare
    omega

namespace pickFits
theorem contract (H : Type) (enc : TypeId × Value → H) (W : World) (base : Nat) (args : Array Value) (ds gs : List (DataW H)) (before : List MemPlace)
    (hval : ∀ (j : Nat) t v, Try.f3.params[j]? = some t → args[j]? = some v → Value.okWide Try.prog W .any base t v)
    (hW : DataW.Whole enc Try.prog Try.f3.params.toList Rows.pickFitsSpec.vars false W args.toList ds gs before) (hk : Rows.uptoSmall H (ds ++ gs) = true) :
    Calls Try.prog 3 args W fun e W' => ∃ v, e = .returned v ∧ Rows.pickFitsSpec.post enc Try.prog Try.f3 false true false false W args v W' := by
  refine contract_of (s := Rows.pickFitsSpec) (bt := 4) mixed laidOut (by kernel_rfl) (by kernel_rfl) Try.underlying4 rfl (fun hlen => ?_) (fun xs τ hl => ?_) hval hW
  · rw [Try.params3] at hlen
    match ds, hlen with
    | [d], _ => rfl
  · rw [Try.params3] at hl
    match ds, hl with
    | [d], ⟨n, vs, σ', rest, h1, ⟨h2, h3⟩, h4⟩ =>
      obtain ⟨he, l, v, rfl, hsl, hle⟩ := lay_bks h1
      subst h2; subst h3; subst h4
      have hb := bulks.bound hk
      simp only [List.cons_append, List.nil_append, Rows.uptoBulkAll] at hb
      have ha : argOf Try.prog 22 [v] = v := by unfold argOf; rw [Try.underlying22]; rfl
      rw [ha]
      obtain ⟨v, υ, h5, h6⟩ := law_PickFits (k := big + 50) hsl (by unfold big; omega) (Nat.le_refl _)
      exact ⟨_, υ, by rw [h5, h6]⟩

set_option maxRecDepth 100000 in
theorem lifted (os : Os) (started : os.Started) (H : Type) (enc : TypeId × Value → H) (F : Stop.Interp) :
    ReturnsInHanded {} Try.checked os 3 .any ((Rows.OpenSpec.upto Rows.pickFitsSpec).pre6 enc Try.prog Try.f3 Rows.pickFitsUptoRow.domain false) (((Rows.OpenSpec.upto Rows.pickFitsSpec).at F).post enc Try.prog Try.f3 false true false false) := by
  refine returnsInHanded_of_cond (C := Try.checked) (s := Rows.OpenSpec.upto Rows.pickFitsSpec) (k := Rows.uptoSmall) rfl own started (by kernel_rfl) Try.func3
    (OpenSpec.witness (enc := enc) (C := Try.checked) (s := Rows.OpenSpec.upto Rows.pickFitsSpec) (k := Rows.uptoSmall) rfl false ⟨#[], #[.slice none 0 0], []⟩ 8 (by kernel_rfl) (by kernel_rfl) (by kernel_rfl)
      (x := ([.nil], [], [])) (by kernel_rfl) rfl (by kernel_rfl)) ?_
  intro W base args ds gs before hval hW _ hk _
  exact contract H enc W base args ds gs before hval hW hk

theorem over : Rows.pickFitsUptoRow.holds Try.pinned (Rows.OpenSpec.upto Rows.pickFitsSpec) :=
  OpenClaim.holds_of_cond 3 Try.f3 rfl rfl rfl rfl rfl rfl rfl ⟨rfl, rfl, rfl, rfl, rfl⟩ rfl rfl rfl rfl rfl (by kernel_rfl) Try.func3 (by kernel_rfl)
    (of_decide_eq_true (by kernel_rfl)) (by unfold Func.isWrapper; first | (rw [if_pos (by decide +kernel)]; kernel_rfl) | (rw [if_neg (by decide +kernel)]; exact ⟨rfl, rfl⟩))
    (fun os started H enc _ F => lifted os started H enc F)
theorem proved : Rows.PickFitsUptoSaid := over
end pickFits
#print axioms pickFits.proved
end Go.Proofs.Ytlediheihkgebaa
