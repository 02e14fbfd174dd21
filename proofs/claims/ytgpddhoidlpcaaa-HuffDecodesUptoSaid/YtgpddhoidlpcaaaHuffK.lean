/- The reference's bits, whole. -/
import Derived.Test.YtgpddhoidlpcaaaHuffJ
set_option linter.unusedVariables false
set_option linter.unusedSimpArgs false
namespace Go.Proofs.Ytgpddhoidlpcaaa
open Go.Proofs.Ytgpddhoidlpcaaa.Eng
section
variable {σ : AW} {k : Nat} {Q : Value → AW → Prop}
def zn : List Nat := List.replicate 256 0
theorem rb33_eq (call : FuncId → List Value → AM Value) (x : Value) : R33.top call k x = bindV (ret (.slice none 0 0)) fun _ => bindV (newA (zn.map U32) 76) fun v3 => bindV (newA (zn.map I64) 77) fun v4 => bindV (ret (.slice none 0 0)) fun v5 => bindV (ret (.int .i64 0)) fun v6 => loop2 (R33.b_86 call k x v3 v4) k v5 v6 := by kernel_rfl
theorem set_map {α : Type} {f : α → Value} (l : List α) (i : Nat) (x : α) (h : i < l.length) : splice (l.map f) i [f x] = (l.set i x).map f := by
  rw [splice_def, List.set_eq_take_append_cons_drop, if_pos h]
  simp
/-- What is already looked up. -/
structure Cache (b1 b2 : Nat) (e1 e2 : TypeId) (τ : AW) (nums sizes : List Nat) : Prop where
  g1 : τ.get b1 = some (.cells (nums.map U32) e1 false)
  g2 : τ.get b2 = some (.cells (sizes.map I64) e2 false)
  l1 : nums.length = 256
  l2 : sizes.length = 256
  ok : ∀ c, c < 256 → sizes[c]? = some 0 ∨ (nums[c]? = some (codeOf c).1 ∧ sizes[c]? = some (codeOf c).2)
theorem zn_ok : cellsOk (zn.map U32) = true ∧ cellsOk (zn.map I64) = true := by decide +kernel
theorem pad_loop {B k1 : Nat} {s : Value} {bits : List Bool} {τ : AW} (own : Own B τ s 5 1 bits.length (bits.map Bb)) (hB : B ≤ τ.next) (hk : 100 ≤ k1) (hbits : bits.length < 1099511627776) :
    wpA (loop1 (R33.b_20 (callN Try.prog k1) k1) k1 s) τ fun v υ => Kept B τ υ ∧ Own B υ v 5 1 (padded bits).length ((padded bits).map Bb) := by
  refine aw_loop1 (fun r u υ => ∃ j : Nat, j ≤ (8 - bits.length % 8) % 8 ∧ r = (8 - bits.length % 8) % 8 - j ∧ Kept B τ υ ∧ Own B υ u 5 1 (bits ++ List.replicate j true).length ((bits ++ List.replicate j true).map Bb)) ?_ k1 ((8 - bits.length % 8) % 8) _ τ ⟨0, by omega, by omega, Kept.refl _ _, by simpa using own⟩ (by omega)
  rintro r rec u υ ⟨j, hj, rfl, kp, ow⟩ hrec
  have hl : (bits ++ List.replicate j true).length = bits.length + j := by simp
  have htm : (((bits ++ List.replicate j true).length : Nat) : Int).tmod 8 = (((bits ++ List.replicate j true).length % 8 : Nat) : Int) := tmodN _ 8
  have hsl := ow.sl
  by_cases hlt : j < (8 - bits.length % 8) % 8
  · have hne : ¬ (bits.length + j) % 8 = 0 := by omega
    have hw : IntKind.i64.wrap (((bits ++ List.replicate j true).length % 8 : Nat) : Int) = (((bits ++ List.replicate j true).length % 8 : Nat) : Int) := wrap64 (by omega) (by omega)
    rw [hl] at hw htm hsl
    have hne' : ¬ (((bits.length + j) % 8 : Nat) : Int) = 0 := by omega
    simp [R33.b_20, len_iff hsl, htm, hw, hne, hne', zeros, List.range_succ, -Int.natCast_add, -Int.natCast_emod]
    refine aw_app1 ow rfl (by omega) (by omega) (by have := kp.1; omega) fun v τ3 h3 h4 => ?_
    refine hrec ((8 - bits.length % 8) % 8 - (j + 1)) _ _ (by omega) ⟨j + 1, by omega, rfl, kp.trans h4, ?_⟩
    rw [List.replicate_succ', ← List.append_assoc, List.length_append, List.map_append]
    exact h3
  · have e : j = (8 - bits.length % 8) % 8 := by omega
    have hne : (bits.length + j) % 8 = 0 := by omega
    have hne' : (((bits.length + j) % 8 : Nat) : Int) = 0 := by omega
    have hw : IntKind.i64.wrap (0 : Int) = 0 := wrap64 (by omega) (by omega)
    rw [hl] at htm hsl
    rw [hne'] at htm
    simp [R33.b_20, len_iff hsl, htm, hw, -Int.natCast_add, -Int.natCast_emod]
    refine ⟨kp, ?_⟩
    rw [e] at ow
    exact ow
end
end Go.Proofs.Ytgpddhoidlpcaaa
