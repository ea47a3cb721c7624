/-
  The law FramePuts, joined.
-/
import Derived.Test.YtijijfggppnbpaaFrmL1
import Derived.Test.YtijijfggppnbpaaFrmV2
namespace Go.Proofs.Ytijijfggppnbpaa
open Go.RowKit
set_option linter.unusedVariables false
namespace Frm
theorem walkFPuts (v0 : Value) (W : World) (h0 : VSat W (.cat (.int .i64) (.cat (.int .u16) (.cat (.int .u32) (.cat (.int .i32) (.cat (.int .i32) (.cat (.int .i32) .unit)))))) true v0) :
    Calls Try.prog 3 #[v0] W fun e W' => e = .returned (.bool true) ∧ Below W.heap.size W W' := by
  obtain ⟨cs, rfl, _, _, rfl, ⟨k, rfl, hk⟩, _, _, rfl, ⟨q, rfl, hq⟩, _, _, rfl, ⟨t, rfl, ht⟩, _, _, rfl, ⟨a, rfl, ha⟩, _, _, rfl, ⟨b, rfl, hb⟩, _, _, rfl, ⟨c, rfl, hc⟩, rfl⟩ := h0
  have h1 := bounds_i64 hk
  have h2 := bounds_u16 hq
  have h3 := bounds_u32 ht
  have h4 := bounds_i32 ha
  have h5 := bounds_i32 hb
  have h6 := bounds_i32 hc
  obtain ⟨q, rfl⟩ : ∃ m : Nat, q = (m : Int) := ⟨q.toNat, by omega⟩
  obtain ⟨t, rfl⟩ : ∃ m : Nat, t = (m : Int) := ⟨t.toNat, by omega⟩
  have hf : (⟨k, q, t, a, b, c⟩ : Fr).Ok := ⟨h1.1, h1.2, by show q < 65536; omega, by show t < 4294967296; omega, h4.1, h4.2, h5.1, h5.2, h6.1, h6.2⟩
  have hl : (outB ⟨k, q, t, a, b, c⟩).length ≤ 24 := by
    unfold outB
    split
    · obtain ⟨_, n, _, hn3, hn⟩ := first_bytes ⟨k, q, t, a, b, c⟩ hf ‹_›
      omega
    · simp
  refine lawPuts_core ⟨k, q, t, a, b, c⟩ (outB ⟨k, q, t, a, b, c⟩) (outB ⟨k, q, t, a, b, c⟩).length (codeF ⟨k, q, t, a, b, c⟩) (numK k) rfl hl (fun w => (put_any _ hf w).mono fun _ _ h => h.opened) (fun w => (yfput_any _ hf w).mono fun _ _ h => h.opened) (fun w => numbers_any k w) (fun w => ynumbers_any k w) (fun w => size_any k w) works12_any ?_ W
  by_cases h0 : codeF ⟨k, q, t, a, b, c⟩ = 0
  · obtain ⟨he, n, hn, hn3, hl⟩ := first_bytes ⟨k, q, t, a, b, c⟩ hf h0
    have ho : outB ⟨k, q, t, a, b, c⟩ = bytesF ⟨k, q, t, a, b, c⟩ := if_pos h0
    rw [ho]
    refine .inr ⟨h0, he, ?_⟩
    rw [hl]
    show sizeK k = _
    have hn : numK k = n := hn
    unfold sizeK
    rw [hn, if_neg (by omega)]
    omega
  · exact .inl ⟨h0, by unfold outB; rw [if_neg h0]; rfl⟩
end Frm
end Go.Proofs.Ytijijfggppnbpaa
