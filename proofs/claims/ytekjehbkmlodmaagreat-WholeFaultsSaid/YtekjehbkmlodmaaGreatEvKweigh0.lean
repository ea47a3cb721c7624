/- A part of the proof of WholeFaults. -/
import Derived.Test.YtekjehbkmlodmaaGreatEvT3
import Derived.Test.YtekjehbkmlodmaaGreatZU
import Derived.KernelRfl
set_option linter.unusedVariables false
set_option linter.unusedSimpArgs false
namespace Go.Proofs.YtekjehbkmlodmaaGreat
open Go.RowKit Go.Ev
namespace Orc
theorem cweigh0 : chkE FT3 100000 108 eweigh0 = true := by kernel_rfl
end Orc
end Go.Proofs.YtekjehbkmlodmaaGreat
