/- Laws of codes. -/
import Derived.Test.YtjmafbiklebjcaaHuffA
set_option linter.unusedVariables false
set_option linter.unusedSimpArgs false
namespace Go.Proofs.Ytjmafbiklebjcaa
open Go.Proofs.Ytjmafbiklebjcaa.Eng
section
variable {σ : AW} {k : Nat} {Q : Value → AW → Prop}
/-- No code begins another. -/
def apartB (p q : Nat × Nat) : Bool := (decide (q.2 < p.2) || decide (q.1 / 2 ^ (q.2 - p.2) ≠ p.1))
theorem sizes_ok : (codesLit.all fun p => decide (5 ≤ p.2) && decide (p.2 ≤ 30) && decide (p.1 < 4294967296)) = true := by decide +kernel
theorem apart_ok : (codesLit.zipIdx.all fun p => codesLit.zipIdx.all fun q => decide (p.2 = q.2) || apartB p.1 q.1) = true := by decide +kernel
theorem code_at {s : Nat} (h : s < 257) : codesLit[s]? = some (codeOf s) := by
  have : s < codesLit.length := by rw [lit_len]; exact h
  unfold codeOf
  rw [List.getD_eq_getElem?_getD, List.getElem?_eq_getElem this]; rfl
theorem size_at {s : Nat} (h : s < 257) : 5 ≤ (codeOf s).2 ∧ (codeOf s).2 ≤ 30 ∧ (codeOf s).1 < 4294967296 := by
  have := List.all_eq_true.1 sizes_ok _ (List.mem_of_getElem? (code_at h))
  simp only [Bool.and_eq_true, decide_eq_true_eq] at this
  exact ⟨this.1.1, this.1.2, this.2⟩
theorem apart_at {s t : Nat} (h : s < 257) (h' : t < 257) (hne : s ≠ t) : (codeOf t).2 < (codeOf s).2 ∨ (codeOf t).1 / 2 ^ ((codeOf t).2 - (codeOf s).2) ≠ (codeOf s).1 := by
  have h1 := List.all_eq_true.1 apart_ok (codeOf s, s) (List.mem_zipIdx_iff_getElem?.2 (code_at h))
  have h2 := List.all_eq_true.1 h1 (codeOf t, t) (List.mem_zipIdx_iff_getElem?.2 (code_at h'))
  simp only [apartB, Bool.or_eq_true, decide_eq_true_eq] at h2
  rcases h2 with h2 | h2 | h2
  · exact absurd h2 hne
  · exact .inl h2
  · exact .inr h2
theorem codeV_nat {s : Nat} (h : s < 257) : codeV (s : Int) = .tuple #[.int .u32 (codeOf s).1, .int .i64 (codeOf s).2, .int .i64 0] := by
  unfold codeV; rw [if_pos (by omega)]; rfl
theorem tmodN (a b : Nat) : (a : Int).tmod (b : Int) = ((a % b : Nat) : Int) := by rw [Int.tmod_eq_emod_of_nonneg (by omega)]; rfl
theorem fdivN (a b : Nat) : (a : Int).fdiv (b : Int) = ((a / b : Nat) : Int) := by
  rw [Int.fdiv_eq_ediv_of_nonneg _ (by omega)]; rfl
end
end Go.Proofs.Ytjmafbiklebjcaa
