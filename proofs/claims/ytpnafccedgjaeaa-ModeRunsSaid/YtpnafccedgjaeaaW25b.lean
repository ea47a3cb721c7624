import Derived.Test.YtpnafccedgjaeaaW25
namespace Go.Proofs.Ytpnafccedgjaeaa
open Go.RowKit
namespace M25

set_option maxHeartbeats 1000000 in
theorem rnext_any (m : Int) (a b c d e f g h j : Bool) (w : World) :
    Calls Try.prog 38 #[.int .i64 m, .agg #[.bool a, .bool b, .bool c, .bool d, .bool e, .bool f, .bool g, .bool h, .bool j]] w fun e' w' => e' = .returned (.tuple #[.int .i64 (nxt m ⟨a, b, c, d, e, f, g, h, j⟩).1, .int .i64 (nxt m ⟨a, b, c, d, e, f, g, h, j⟩).2]) ∧ Below w.heap.size w w' := by
  by_cases hr : 0 ≤ m ∧ m ≤ 4
  · obtain rfl | rfl | rfl | rfl | rfl : m = 0 ∨ m = 1 ∨ m = 2 ∨ m = 3 ∨ m = 4 := by omega
    all_goals
      clear hr
      go_enter Try.func38, Try.ntmps38
      go_wp2
      all_goals
        go_ret2
        exact ⟨by simp_all [nxt, right, fol], bl _ _⟩
  · have hR : right m = false := right_f (by omega)
    by_cases hm : m < 0
    all_goals
      go_enter Try.func38, Try.ntmps38
      go_wp2
      all_goals
        go_ret2
        exact ⟨by simp_all [nxt], bl _ _⟩

def ways (m : Int) : Int := if m = 0 then 19 else if m = 1 then 23 else if m = 2 then 31 else if m = 3 then 31 else if m = 4 then 16 else 0
theorem ways_any (m : Int) (w : World) :
    Calls Try.prog 40 #[.int .i64 m] w fun e w' => e = .returned (.int .u8 (ways m)) ∧ w = w' := by
  by_cases hr : 0 ≤ m ∧ m ≤ 4
  · obtain rfl | rfl | rfl | rfl | rfl : m = 0 ∨ m = 1 ∨ m = 2 ∨ m = 3 ∨ m = 4 := by omega
    all_goals
      clear hr
      have i0 : ∀ w, (Instr.index 84 (.agg #[.int .u8 19, .int .u8 23, .int .u8 31, .int .u8 31, .int .u8 16]) (.int .i64 0)).run Try.prog w = .ok (.int .u8 19) w := fun _ => by kernel_rfl
      have i1 : ∀ w, (Instr.index 84 (.agg #[.int .u8 19, .int .u8 23, .int .u8 31, .int .u8 31, .int .u8 16]) (.int .i64 1)).run Try.prog w = .ok (.int .u8 23) w := fun _ => by kernel_rfl
      have i2 : ∀ w, (Instr.index 84 (.agg #[.int .u8 19, .int .u8 23, .int .u8 31, .int .u8 31, .int .u8 16]) (.int .i64 2)).run Try.prog w = .ok (.int .u8 31) w := fun _ => by kernel_rfl
      have i3 : ∀ w, (Instr.index 84 (.agg #[.int .u8 19, .int .u8 23, .int .u8 31, .int .u8 31, .int .u8 16]) (.int .i64 3)).run Try.prog w = .ok (.int .u8 31) w := fun _ => by kernel_rfl
      have i4 : ∀ w, (Instr.index 84 (.agg #[.int .u8 19, .int .u8 23, .int .u8 31, .int .u8 31, .int .u8 16]) (.int .i64 4)).run Try.prog w = .ok (.int .u8 16) w := fun _ => by kernel_rfl
      go_enter Try.func40, Try.ntmps40
      go_wp2_with (go_at_call 39; refine (right_any _ _).mono ?_; rintro e w' ⟨rfl, rfl⟩)
      all_goals
        go_ret
        exact ⟨by simp [ways], rfl⟩
  · have hR : right m = false := right_f (by omega)
    go_enter Try.func40, Try.ntmps40
    go_wp2_with (go_at_call 39; refine (right_any _ _).mono ?_; rintro e w' ⟨rfl, rfl⟩)
    all_goals
      go_ret
      refine ⟨?_, rfl⟩
      show Ending.returned (.int .u8 0) = _
      unfold ways
      rw [if_neg (by omega), if_neg (by omega), if_neg (by omega), if_neg (by omega), if_neg (by omega)]

theorem holds_any (m : Int) (w : World) :
    Calls Try.prog 41 #[.int .i64 m] w fun e w' => e = .returned (.bool (m == 2 || m == 3)) ∧ w = w' := by
  go_enter Try.func41, Try.ntmps41
  go_wp2
  all_goals
    go_ret
    exact ⟨by simp_all, rfl⟩

end M25
end Go.Proofs.Ytpnafccedgjaeaa
