/-
  The walks of the laws CrcSums and CrcJoins.
-/
import Derived.Test.YtpnafccedgjaeaaCrcW7
import Derived.Test.YtpnafccedgjaeaaShape
namespace Go.Proofs.Ytpnafccedgjaeaa
open Go.RowKit
namespace Crc

theorem lawSums_any (A : Option Addr) (l : List UInt8) (cap : Nat) (w : World) (hA : Bytes w A l) (hl : l.length ≤ maxLen) :
    Calls Try.prog 3 #[.slice A l.length cap] w fun e w' => e = .returned (.bool true) ∧ Below w.heap.size w w' := by
  have HA := Lib.hid hA; clear hA
  unfold maxLen at hl
  by_cases h : l.length ≤ 2000
  · go_enter Try.func3, Try.ntmps3
    go_wp2_with (first | (go_at_call 15; refine (sum_any _ _ _ _ HA.out (by unfold maxLen; omega)).mono ?_; rintro e w' ⟨rfl, rfl⟩) | (go_at_call 16; refine (rsum_any _ _ _ _ HA.out (by unfold maxLen; omega)).mono ?_; rintro e w' ⟨rfl, rfl⟩) | (go_at_call 14; refine (works_any _).mono ?_; rintro e w' ⟨rfl, hb⟩))
    go_ret
    exact ⟨rfl, hb⟩
  · go_enter Try.func3, Try.ntmps3
    go_wp2_with (go_at_call 14; refine (works_any _).mono ?_; rintro e w' ⟨rfl, hb⟩)
    go_ret
    exact ⟨rfl, hb⟩

/-- the bytes of a reading -/
theorem open_bytes {W : World} {v : Value} (h : VSat W (.slice (.int .u8)) false v) : ∃ A l cap, v = .slice A (List.length l) cap ∧ Bytes W A l ∧ l.length ≤ maxLen ∧ (A = none → l.length = 0 ∧ cap = 0) := by
  obtain ⟨A, len, cap, e, hl, hm, hc⟩ := h
  injection e with e
  subst e
  rcases hc with ⟨rfl, rfl, rfl⟩ | ⟨h0, hA⟩ | ⟨b, off, rfl, hb, hi⟩
  · exact ⟨none, [], 0, rfl, .inl rfl, by simp [maxLen], fun _ => ⟨rfl, rfl⟩⟩
  · subst h0
    cases A with
    | none => exact absurd rfl hA
    | some a => exact ⟨some a, [], cap, rfl, .inl rfl, by simp [maxLen], fun h => by cases h⟩
  · have hi' : ∀ i, i < len → ∃ c : UInt8, W.cell? ⟨b, off + i, none⟩ = some (.int .u8 (c.toNat : Int)) := by
      intro i hil
      obtain ⟨cs, _, hc, n, rfl, hw⟩ := hi i hil
      have := bounds_u8 hw
      refine ⟨UInt8.ofNat n.toNat, ?_⟩
      have h0 := hc 0 _ rfl
      simp only [Sh.size, Nat.mul_one, Nat.add_zero] at h0
      rw [h0, UInt8.toNat_ofNat']
      congr 2
      omega
    obtain ⟨l, rfl, hL⟩ := list_of hi'
    exact ⟨_, l, cap, rfl, .inr ⟨b, off, rfl, hb, hL⟩, by omega, fun h => by cases h⟩

theorem walkSums (v0 : Value) (W : World) (h0 : VSat W (.slice (.int .u8)) false v0) :
    Calls Try.prog 3 #[v0] W fun e W' => e = .returned (.bool true) ∧ Below W.heap.size W W' := by
  obtain ⟨A, l, cap, rfl, hA, hl, _⟩ := open_bytes h0
  exact lawSums_any A l cap W hA hl
end Crc
end Go.Proofs.Ytpnafccedgjaeaa
