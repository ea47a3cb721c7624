import Derived.Test.YtpnafccedgjaeaaW25b
namespace Go.Proofs.Ytpnafccedgjaeaa
open Go.RowKit
namespace M25

def names : Array Value := #[.string ⟨#[105, 100, 108, 101]⟩, .string ⟨#[97, 99, 113, 117, 105, 114, 101]⟩, .string ⟨#[116, 114, 97, 99, 107]⟩, .string ⟨#[99, 111, 97, 115, 116]⟩, .string ⟨#[102, 97, 117, 108, 116]⟩]
def nameOf (m : Int) : ByteArray := if m = 0 then ⟨#[105, 100, 108, 101]⟩ else if m = 1 then ⟨#[97, 99, 113, 117, 105, 114, 101]⟩ else if m = 2 then ⟨#[116, 114, 97, 99, 107]⟩ else if m = 3 then ⟨#[99, 111, 97, 115, 116]⟩ else if m = 4 then ⟨#[102, 97, 117, 108, 116]⟩ else ⟨#[]⟩

theorem name_any (m : Int) (w : World) :
    Calls Try.prog 42 #[.int .i64 m] w fun e w' => e = .returned (.string (nameOf m)) ∧ w = w' := by
  by_cases hr : 0 ≤ m ∧ m ≤ 4
  · have i0 : ∀ w, (Instr.index 85 (.agg names) (.int .i64 0)).run Try.prog w = .ok (.string ⟨#[105, 100, 108, 101]⟩) w := fun _ => by kernel_rfl
    have i1 : ∀ w, (Instr.index 85 (.agg names) (.int .i64 1)).run Try.prog w = .ok (.string ⟨#[97, 99, 113, 117, 105, 114, 101]⟩) w := fun _ => by kernel_rfl
    have i2 : ∀ w, (Instr.index 85 (.agg names) (.int .i64 2)).run Try.prog w = .ok (.string ⟨#[116, 114, 97, 99, 107]⟩) w := fun _ => by kernel_rfl
    have i3 : ∀ w, (Instr.index 85 (.agg names) (.int .i64 3)).run Try.prog w = .ok (.string ⟨#[99, 111, 97, 115, 116]⟩) w := fun _ => by kernel_rfl
    have i4 : ∀ w, (Instr.index 85 (.agg names) (.int .i64 4)).run Try.prog w = .ok (.string ⟨#[102, 97, 117, 108, 116]⟩) w := fun _ => by kernel_rfl
    unfold names at i0 i1 i2 i3 i4
    obtain rfl | rfl | rfl | rfl | rfl : m = 0 ∨ m = 1 ∨ m = 2 ∨ m = 3 ∨ m = 4 := by omega
    all_goals
      clear hr
      go_enter Try.func42, Try.ntmps42
      go_wp2_with (go_at_call 39; refine (right_any _ _).mono ?_; rintro e w' ⟨rfl, rfl⟩)
      all_goals
        go_ret
        exact ⟨rfl, rfl⟩
  · have hR : right m = false := right_f (by omega)
    go_enter Try.func42, Try.ntmps42
    go_wp2_with (go_at_call 39; refine (right_any _ _).mono ?_; rintro e w' ⟨rfl, rfl⟩)
    all_goals
      go_ret
      refine ⟨?_, rfl⟩
      show Ending.returned (.string ⟨#[]⟩) = _
      unfold nameOf
      rw [if_neg (by omega), if_neg (by omega), if_neg (by omega), if_neg (by omega), if_neg (by omega)]

end M25
end Go.Proofs.Ytpnafccedgjaeaa
