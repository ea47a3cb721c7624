/- A part of the proof of WholeFaults. -/
import Derived.Test.YtekjehbkmlodmaaGreatEvT5
import Derived.Test.YtekjehbkmlodmaaGreatZU
import Derived.KernelRfl
set_option linter.unusedVariables false
set_option linter.unusedSimpArgs false
namespace Go.Proofs.YtekjehbkmlodmaaGreat
open Go.RowKit Go.Ev
namespace Orc
theorem cDrDrivePush1 : chkE FT5 100000 13 eDrDrivePush1 = true := by kernel_rfl
end Orc
end Go.Proofs.YtekjehbkmlodmaaGreat
