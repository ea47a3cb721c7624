/- A part of the proof of WholeFaults. -/
import Derived.Test.YtekjehbkmlodmaaGreatEvT4
import Derived.Test.YtekjehbkmlodmaaGreatZU
import Derived.KernelRfl
set_option linter.unusedVariables false
set_option linter.unusedSimpArgs false
namespace Go.Proofs.YtekjehbkmlodmaaGreat
open Go.RowKit Go.Ev
namespace Orc
theorem cBytes0 : chkE FT4 100000 17 eBytes0 = true := by kernel_rfl
end Orc
end Go.Proofs.YtekjehbkmlodmaaGreat
