/-
  The law FrameFeeds, joined.
-/
import Derived.Test.YtijijfggppnbpaaFrmO
import Derived.Test.YtijijfggppnbpaaFrmL3
import Derived.Test.YtijijfggppnbpaaFrmV2
namespace Go.Proofs.Ytijijfggppnbpaa
open Go.RowKit
set_option linter.unusedVariables false
namespace Frm
open Txt (kind_cases bv bv_one)
theorem walkFFeeds (v0 v1 : Value) (W : World) (h0 : VSat W (.slice (.int .u8)) false v0) (h1 : VSat W (.slice (.int .u8)) false v1) :
    Calls Try.prog 6 #[v0, v1] W fun e W' => e = .returned (.bool true) ∧ Below W.heap.size W W' := by
  obtain ⟨A, L, cap, rfl, hr, hc, hm, hA⟩ := open_bytes' h0
  obtain ⟨A2, C, cap2, rfl, hr2, hc2, hm2, hA2⟩ := open_bytes' h1
  by_cases hl : 400 < L.length ∨ 60 < C.length
  · exact lawFeeds_long A A2 L.length cap C.length cap2 hl works12_any W
  · exact lawFeeds_core A A2 L C L.length cap C.length cap2 rfl (by omega) hc hA rfl (by omega) hc2 works12_any W hr hr2
end Frm
end Go.Proofs.Ytijijfggppnbpaa
