/- What the claims on codes read and written share. -/
import Derived.Test.YtgpddhoidlpcaaaHuffU
import Derived.Test.YtgpddhoidlpcaaaHuffY
set_option linter.unusedVariables false
set_option linter.unusedSimpArgs false
namespace Go.Proofs.Ytgpddhoidlpcaaa
end Go.Proofs.Ytgpddhoidlpcaaa
