/-
  The law FrameFirsts, joined.
-/
import Derived.Test.YtijijfggppnbpaaFrmL3
import Derived.Test.YtijijfggppnbpaaFrmV2
namespace Go.Proofs.Ytijijfggppnbpaa
open Go.RowKit
set_option linter.unusedVariables false
namespace Frm
theorem walkFFirsts (v0 : Value) (W : World) (h0 : VSat W (.slice (.int .u8)) false v0) :
    Calls Try.prog 4 #[v0] W fun e W' => e = .returned (.bool true) ∧ Below W.heap.size W W' := by
  obtain ⟨A, L, cap, rfl, hr, hc, hm, hA⟩ := open_bytes' h0
  by_cases hl : 200 < L.length
  · exact lawFirsts_long A L.length cap hl works12_any W
  · rcases bytes_first L with ⟨h1, h2, h3⟩ | ⟨h1, hok, hcode, hz1, hz2, hz3, hb⟩
    · exact lawFirsts_core A L L.length cap (firstL L).1 (firstL L).2.1 (firstL L).2.2 rfl (by omega) hc hA rfl (.inl ⟨h1, h3, h2⟩) works12_any W hr
    · refine lawFirsts_core A L L.length cap (firstL L).1 (firstL L).2.1 (firstL L).2.2 rfl (by omega) hc hA rfl (.inr ⟨h1, hz1, hz2, fun w => (put_any _ hok w).mono fun e w' h => ?_⟩) works12_any W hr
      have h' := h.opened
      unfold outB at h'
      rw [if_pos hcode, hb, hcode, List.length_take, Nat.min_eq_left hz2] at h'
      exact h'
end Frm
end Go.Proofs.Ytijijfggppnbpaa
