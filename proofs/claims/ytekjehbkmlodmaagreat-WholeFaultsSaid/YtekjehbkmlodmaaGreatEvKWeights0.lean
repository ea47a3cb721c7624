/- A part of the proof of WholeFaults. -/
import Derived.Test.YtekjehbkmlodmaaGreatZU
import Derived.KernelRfl
set_option linter.unusedVariables false
set_option linter.unusedSimpArgs false
namespace Go.Proofs.YtekjehbkmlodmaaGreat
open Go.RowKit Go.Ev
namespace Orc
theorem cWeights0 : chkE FT2 100000 131 eWeights0 = true := by kernel_rfl
end Orc
end Go.Proofs.YtekjehbkmlodmaaGreat
