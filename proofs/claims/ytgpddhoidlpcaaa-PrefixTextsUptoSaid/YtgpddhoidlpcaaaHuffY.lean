/- How bytes are laid, for the claims on Huff. -/
import Derived.Test.YtgpddhoidlpcaaaHuffE
import Derived.Test.YtgpddhoidlpcaaaHuffX
import Derived.Test.YtgpddhoidlpcaaaBulk
set_option linter.unusedVariables false
set_option linter.unusedSimpArgs false
namespace Go.Proofs.Ytgpddhoidlpcaaa
open Go.Proofs.Ytgpddhoidlpcaaa.Eng
open Go.ChangeShapes Go.WideShapes Go.ChangeAt Go.RowKit
theorem flat_Bt (l : List UInt8) : l.flatMap (fun a : UInt8 => [Bt a]) = l.map Bt := by
  induction l with
  | nil => rfl
  | cons a l ih => simp only [List.flatMap_cons, List.map_cons, ih]; rfl
theorem lay_bytes {H : Type} {n : Nat} {d : DataW H} {σ τ : AW} {vs : List Value} (h : lay Try.prog n 33 d σ = some (vs, τ)) : Ext σ τ ∧ ∃ (l : List UInt8) (v : Value), vs = [v] ∧ Sl τ v 1 l.length (l.map Bt) ∧ l.length ≤ Rows.uptoBulk d := by
  obtain ⟨he, l, v, rfl, hsl, hd, hle⟩ := lay_slice (cs := fun a : UInt8 => [Bt a]) (z := 1) Try.underlying33 (by kernel_rfl) (fun _ => rfl) (fun m d σ vs τ h => by
    obtain ⟨s1, b, l1, hw, _⟩ := lay_int Try.underlying5 h
    obtain ⟨a, rfl, ha⟩ := wf_u8 hw
    refine ⟨s1, UInt8.ofNat a, ?_⟩
    rw [l1, Bt_lt ha]) h
  rw [flat_Bt] at hsl
  refine ⟨he, l, v, rfl, hsl, ?_⟩
  rcases hd with ⟨rfl, rfl⟩ | ⟨elems, spare, rfl, hl⟩
  · simp
  · have := bulks.slice_le elems spare
    omega
theorem arg33 {v : Value} : argOf Try.prog 33 [v] = v := by unfold argOf; rw [Try.underlying33]; rfl
end Go.Proofs.Ytgpddhoidlpcaaa
