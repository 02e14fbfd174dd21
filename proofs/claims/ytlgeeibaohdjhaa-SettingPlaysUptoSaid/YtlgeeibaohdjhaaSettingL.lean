/- What is wrong with any setting. -/
import Derived.Test.YtlgeeibaohdjhaaSettingK
set_option linter.unusedVariables false
set_option linter.unusedSimpArgs false
namespace Go.Proofs.Ytlgeeibaohdjhaa
open Go.Proofs.Ytlgeeibaohdjhaa.Eng
section
variable {σ : AW} {k : Nat} {Q : Value → AW → Prop}
theorem law_SettingChecks {x y : Int} (hk : 100 ≤ k) (hy : 0 ≤ y) : wpA (cl k 3 [.agg #[.int .i64 x, .int .u32 y]]) σ fun v _ => v = .bool true := by
  rw [cl_at (by omega) (by decide), R3.eq]
  have h3 : 3 ≤ k - 1 := by omega
  generalize k - 1 = k1 at h3
  simp [R3.d_5, R3.top, check_spec (show 1 ≤ k1 by omega) hy, ref_check (show 1 ≤ k1 by omega) hy]
  exact ⟨by simp [same, sameL], awake_spec h3⟩
end
end Go.Proofs.Ytlgeeibaohdjhaa
