/- Functions whose contract is shown otherwise. -/
import Derived.Test.YtlgeeibaohdjhaaEngY
set_option linter.unusedVariables false
set_option linter.unusedSimpArgs false
namespace Go.Proofs.Ytlgeeibaohdjhaa.Eng
open Go.ChangeShapes Go.WideShapes Go.RowKit
variable {P : Program} {H : Type}
/-- What is asked of a function that is not run. -/
def OvOk (P : Program) (f : FuncId) (m : List Value → AM Value) : Prop := ∀ args σ v τ, m args σ = some (v, τ) → (∃ fn, P.funcs[f]? = some fn ∧ fn.body.isSome = true ∧ (fn.name == "runtime.NumGoroutine") = false) ∧
  ∀ φ w (args' : Array Value), WR P φ σ w → VRs φ args args'.toList → Calls P f args' w fun e w' => ∃ ψ v', e = .returned v' ∧ VR ψ v v' ∧ WR P ψ τ w' ∧ FR φ σ w ψ τ w'
def callO (P : Program) (ov : FuncId → Option (List Value → AM Value)) : Nat → FuncId → List Value → AM Value
  | 0 => fun _ _ => fail
  | n + 1 => fun f args => match ov f with
    | some m => m args
    | none => funcA P (callO P ov n) n f args
theorem callO_sound (hm : P.follows .mixedOrders = true) {ov : FuncId → Option (List Value → AM Value)} (ho : ∀ f m, ov f = some m → OvOk P f m) : ∀ n, CallsOk P (callO P ov n)
  | 0 => by
    intro f args σ v τ h
    have h : (fail : AM Value) σ = some (v, τ) := h
    exact (fail_none h).elim
  | n + 1 => by
    intro f args σ v τ h
    unfold callO at h
    cases hf : ov f with
    | none => rw [hf] at h; exact funcA_sound hm (callO_sound hm ho n) n f args σ v τ h
    | some m =>
      rw [hf] at h
      exact ho f m hf args σ v τ h
theorem callO_at {ov : FuncId → Option (List Value → AM Value)} {n : Nat} {f : FuncId} {args : List Value} (h : 1 ≤ n) (hf : ov f = none) : callO P ov n f args = funcA P (callO P ov (n - 1)) (n - 1) f args := by
  obtain ⟨m, rfl⟩ : ∃ m, n = m + 1 := ⟨n - 1, by omega⟩
  simp only [callO, hf, Nat.add_sub_cancel]
theorem callO_ov {ov : FuncId → Option (List Value → AM Value)} {n : Nat} {f : FuncId} {m : List Value → AM Value} {args : List Value} (h : 1 ≤ n) (hf : ov f = some m) : callO P ov n f args = m args := by
  obtain ⟨k, rfl⟩ : ∃ k, n = k + 1 := ⟨n - 1, by omega⟩
  simp only [callO, hf]
section
variable {enc : TypeId × Value → H} {W : World}
/-- THE CONTRACT, by whatever runs. -/
theorem contract_ofC {f : FuncId} {fn : Func} {s : ChangeSpec} {apart fresh handsOn again : Bool} {bt : TypeId} (hl : laidOutB P = true)
    (hty : (fn.params.toList.all fun t => tyOk P 8 t && P.readableRec t && decide (t < P.types.size)) = true) (hbt : fn.resultTypes = #[bt]) (hub : P.underlying bt = some .bool) (hv : s.vars = [])
    {base : Nat} {args : Array Value} {ds gs : List (DataW H)} {before : List MemPlace}
    (hs : ds.length = fn.params.toList.length → s.fn H (ds ++ []) = { results := [.lit (.bool true)], args := ds })
    (law : ∀ args τ, LaidAll P fn.params.toList ds ⟨.nil, 0⟩ args τ → ∃ c υ, CallsOk P c ∧ c f args τ = some (.bool true, υ))
    (hval : ∀ (j : Nat) t v, fn.params[j]? = some t → args[j]? = some v → Value.okWide P W .any base t v)
    (hW : DataW.Whole enc P fn.params.toList s.vars apart W args.toList ds gs before) :
    Calls P f args W fun e W' => ∃ v, e = .returned v ∧ s.post enc P fn apart fresh handsOn again W args v W' := by
  have hty' : ∀ t ∈ fn.params.toList, tyOk P 8 t = true ∧ P.readableRec t = true ∧ t < P.types.size := fun t ht => by
    have := List.all_eq_true.1 hty t ht
    simpa [and_assoc] using this
  have hW' := hW
  obtain ⟨p, q, hA, hV, rfl, hfz, hnd⟩ := hW
  rw [hv] at hV
  obtain ⟨rfl, rfl⟩ := trodVars_none hV
  have h0 : WR P (fun _ => none) ⟨.nil, 0⟩ W := ⟨fun _ _ h => (by cases h), fun _ _ h => (by cases h), fun b o h => (by cases h), fun b c x y p q h => (by cases h)⟩
  obtain ⟨as, τ, ψ, l1, l2, l3, l4, _⟩ := args_rel (m := 8) (base := base) fn.params.toList args.toList ds p _ _ hA (fun t ht => (hty' t ht).1) (fun j t v h1 h2 => hval j t v (by simpa using h1) (by simpa using h2)) h0 (fun b o h => by cases h)
  obtain ⟨c, υ, hc, hk⟩ := law as τ l1
  refine ((hc f as τ _ υ hk).2 ψ W args l3 l2).mono fun e W' ⟨χ, v', he, hvr, hwr, hfr⟩ => ?_
  simp only [VR] at hvr
  subst hvr
  exact ⟨_, he, post_true hl (fun t ht => (hty' t ht).2) hbt hub hv (hs (laid_length l1)) hW' (hfr.below l4)⟩
end
end Go.Proofs.Ytlgeeibaohdjhaa.Eng
