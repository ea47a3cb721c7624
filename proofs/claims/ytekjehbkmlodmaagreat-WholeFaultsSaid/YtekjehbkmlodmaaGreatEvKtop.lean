/- A part of the proof of WholeFaults. -/
import Derived.Test.YtekjehbkmlodmaaGreatEvT6
import Derived.KernelRfl
set_option linter.unusedVariables false
set_option linter.unusedSimpArgs false
namespace Go.Proofs.YtekjehbkmlodmaaGreat
open Go.RowKit Go.Ev
namespace Orc
theorem ktop : chkI FT6 100000 5 ([], .bool true) = true := by kernel_rfl
theorem runs_any (w : World) : Calls Tryz.prog 5 #[] w fun e w' => e = .returned (.bool true) ∧ Below w.heap.size w w' := by
 have h := chkI_ok (p := ([], .bool true)) ft6_ok ktop (ρ := ρ0) (W := w) (xs := []) (hh := H0) rfl (R.empty w) 0
 refine Calls.mono (callsIn_wide.1 h) ?_
 rintro e w' ⟨x, rfl, ρ', h1, _, h3⟩
 simp only [conc] at h1
 injection h1 with h1
 subst h1
 exact ⟨rfl, Ext.below h3⟩
end Orc
end Go.Proofs.YtekjehbkmlodmaaGreat
