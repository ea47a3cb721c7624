/-
  The walks of package frame: how many numbers a kind has; a frame as bytes.
-/
import Derived.Test.YtijijfggppnbpaaByteG
import Derived.Test.YtijijfggppnbpaaCrcW3
namespace Go.Proofs.Ytijijfggppnbpaa
open Go.RowKit
set_option linter.unusedVariables false
namespace Frm
open Txt (kind_cases bv GotB leB tx)

def numN : Nat → Int
  | 1 => 3
  | 2 => 2
  | 3 => 2
  | 4 => 0
  | 5 => 1
  | 6 => 3
  | 7 => 2
  | _ => -1
/-- how many numbers a kind has -/
def numK (k : Int) : Int := numN k.toNat
theorem numN_none {n : Nat} (h : n < 1 ∨ 7 < n) : numN n = -1 := by
  match n, h with
  | 0, _ => rfl
  | 1, h => omega
  | 2, h => omega
  | 3, h => omega
  | 4, h => omega
  | 5, h => omega
  | 6, h => omega
  | 7, h => omega
  | n + 8, _ => rfl
set_option maxRecDepth 100000 in
set_option maxHeartbeats 1000000 in
theorem counts_any (w : World) :
    Calls Try.prog 57 #[] w fun e w' => e = .returned (.agg #[.int .i64 0, .int .i64 3, .int .i64 2, .int .i64 2, .int .i64 0, .int .i64 1, .int .i64 3, .int .i64 2]) ∧ Below w.heap.size w w' := by
  go_enter Try.func57, Try.ntmps57
  go_wp2
  refine bodyPost_ret (results_cell_row rfl _ _ w.heap.size 87 _ (0, 0) _ rfl (Blk.mk w 87 [.int .i64 0, .int .i64 3, .int .i64 2, .int .i64 2, .int .i64 0, .int .i64 1, .int .i64 3, .int .i64 2]) Try.underlying87 rfl (by kernel_rfl)) rfl ?_
  exact ⟨rfl, bl _ _⟩
theorem ix1 (w : World) : (Instr.index 87 (.agg #[.int .i64 0, .int .i64 3, .int .i64 2, .int .i64 2, .int .i64 0, .int .i64 1, .int .i64 3, .int .i64 2]) (.int .i64 1)).run Try.prog w = .ok (.int .i64 3) w := by kernel_rfl
theorem ix2 (w : World) : (Instr.index 87 (.agg #[.int .i64 0, .int .i64 3, .int .i64 2, .int .i64 2, .int .i64 0, .int .i64 1, .int .i64 3, .int .i64 2]) (.int .i64 2)).run Try.prog w = .ok (.int .i64 2) w := by kernel_rfl
theorem ix3 (w : World) : (Instr.index 87 (.agg #[.int .i64 0, .int .i64 3, .int .i64 2, .int .i64 2, .int .i64 0, .int .i64 1, .int .i64 3, .int .i64 2]) (.int .i64 3)).run Try.prog w = .ok (.int .i64 2) w := by kernel_rfl
theorem ix4 (w : World) : (Instr.index 87 (.agg #[.int .i64 0, .int .i64 3, .int .i64 2, .int .i64 2, .int .i64 0, .int .i64 1, .int .i64 3, .int .i64 2]) (.int .i64 4)).run Try.prog w = .ok (.int .i64 0) w := by kernel_rfl
theorem ix5 (w : World) : (Instr.index 87 (.agg #[.int .i64 0, .int .i64 3, .int .i64 2, .int .i64 2, .int .i64 0, .int .i64 1, .int .i64 3, .int .i64 2]) (.int .i64 5)).run Try.prog w = .ok (.int .i64 1) w := by kernel_rfl
theorem ix6 (w : World) : (Instr.index 87 (.agg #[.int .i64 0, .int .i64 3, .int .i64 2, .int .i64 2, .int .i64 0, .int .i64 1, .int .i64 3, .int .i64 2]) (.int .i64 6)).run Try.prog w = .ok (.int .i64 3) w := by kernel_rfl
theorem ix7 (w : World) : (Instr.index 87 (.agg #[.int .i64 0, .int .i64 3, .int .i64 2, .int .i64 2, .int .i64 0, .int .i64 1, .int .i64 3, .int .i64 2]) (.int .i64 7)).run Try.prog w = .ok (.int .i64 2) w := by kernel_rfl
set_option maxRecDepth 100000 in
set_option maxHeartbeats 1000000 in
theorem numbers_any (k : Int) (w : World) :
    Calls Try.prog 15 #[.int .i64 k] w fun e w' => e = .returned (.int .i64 (numK k)) ∧ Below w.heap.size w w' := by
  rcases kind_cases k with rfl | rfl | rfl | rfl | rfl | rfl | rfl | h
  case inr.inr.inr.inr.inr.inr.inr =>
    have hw : numK k = -1 := numN_none (by omega)
    have Hw := Lib.hid hw
    clear hw
    by_cases h1 : k < 1
    · have d1 : decide (k < 1) = true := decide_eq_true h1
      go_enter Try.func15, Try.ntmps15
      go_wp2_with fail
      go_ret
      exact ⟨by rw [Hw.out]; rfl, Below.refl _ _⟩
    · have h2 : 7 < k := by omega
      have d1 : decide (k < 1) = false := decide_eq_false h1
      have d2 : decide (7 < k) = true := decide_eq_true h2
      clear h
      go_enter Try.func15, Try.ntmps15
      go_wp2_with fail
      go_ret
      exact ⟨by rw [Hw.out]; rfl, Below.refl _ _⟩
  all_goals
    go_enter Try.func15, Try.ntmps15
    go_wp2_with fail
    refine (counts_any _).mono ?_
    rintro e w2 ⟨rfl, hb⟩
    go_wp2_with (first | simp only [ix1] | simp only [ix2] | simp only [ix3] | simp only [ix4] | simp only [ix5] | simp only [ix6] | simp only [ix7])
    go_ret
    exact ⟨rfl, hb⟩
end Frm
end Go.Proofs.Ytijijfggppnbpaa
