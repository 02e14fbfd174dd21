/- What the claims on Setting that make settings share. -/
import Derived.Test.YtlgeeibaohdjhaaSettingX
import Derived.Test.YtlgeeibaohdjhaaSettingL
set_option linter.unusedVariables false
set_option linter.unusedSimpArgs false
namespace Go.Proofs.Ytlgeeibaohdjhaa
open Go.Proofs.Ytlgeeibaohdjhaa.Eng
theorem arg24 {x : St} : argOf Try.prog 24 x.cs = .agg x.cs.toArray := by unfold argOf; rw [Try.underlying24]
theorem cl_ok (n : Nat) : CallsOk Try.prog (cl n) := callO_sound mixedM ovs_ok n
end Go.Proofs.Ytlgeeibaohdjhaa
