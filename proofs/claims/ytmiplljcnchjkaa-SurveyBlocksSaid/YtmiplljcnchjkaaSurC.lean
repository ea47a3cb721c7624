/-
  The walks of tile.Check and of the document's Check of a field.
-/
import Derived.Test.YtmiplljcnchjkaaSurT
namespace Go.Proofs.Ytmiplljcnchjkaa
open Go.RowKit
set_option linter.unusedVariables false
namespace Sur
/-- what is wrong with a field -/
def codeH (W H : Int) (n : Nat) : Int := if W < 2 ∨ H < 2 ∨ 256 < W ∨ 256 < H then 2 else if (n : Int) = W * H then 0 else 5
theorem codeH_out {W H : Int} {n : Nat} (h : W < 2 ∨ H < 2 ∨ 256 < W ∨ 256 < H) : codeH W H n = 2 := by unfold codeH; rw [if_pos h]
theorem codeH_no {W H : Int} {n : Nat} (h : ¬ (W < 2 ∨ H < 2 ∨ 256 < W ∨ 256 < H)) (e : ¬ (n : Int) = W * H) : codeH W H n = 5 := by unfold codeH; rw [if_neg h, if_neg e]
theorem codeH_yes {W H : Int} {n : Nat} (h : ¬ (W < 2 ∨ H < 2 ∨ 256 < W ∨ 256 < H)) (e : (n : Int) = W * H) : codeH W H n = 0 := by unfold codeH; rw [if_neg h, if_pos e]
theorem codeH_nat {W H n : Nat} (hW : 2 ≤ W) (hW2 : W ≤ 256) (hH : 2 ≤ H) (hH2 : H ≤ 256) (hn : n = W * H) : codeH W H n = 0 := codeH_yes (by omega) (by rw [hn, Int.natCast_mul])
theorem codeH_zero {W H : Int} {n : Nat} (h : codeH W H n = 0) : 2 ≤ W ∧ 2 ≤ H ∧ W ≤ 256 ∧ H ≤ 256 ∧ (n : Int) = W * H := by
  unfold codeH at h
  split at h
  · cases h
  · split at h
    · rename_i h1 h2
      exact ⟨by omega, by omega, by omega, by omega, h2⟩
    · cases h
theorem mul_small {W H : Int} (h : ¬ (W < 2 ∨ H < 2 ∨ 256 < W ∨ 256 < H)) : 0 ≤ W * H ∧ W * H ≤ 65536 := by
  refine ⟨Int.mul_nonneg (by omega) (by omega), ?_⟩
  have := Int.mul_le_mul (show W ≤ 256 by omega) (show H ≤ 256 by omega) (by omega) (by omega)
  omega
set_option maxRecDepth 100000 in
set_option maxHeartbeats 1000000 in
theorem tcheck_any (W H : Int) (A : Option Addr) (n cap : Nat) (w : World) (hn : n ≤ maxLen) :
    Calls Try.prog 59 #[.agg #[.int .i64 W, .int .i64 H, .slice A n cap]] w fun e w' => e = .returned (.int .i64 (codeH W H n)) ∧ Below w.heap.size w w' := by
  unfold maxLen at hn
  by_cases h : W < 2 ∨ H < 2 ∨ 256 < W ∨ 256 < H
  · have E := Lib.hid (codeH_out (n := n) h)
    have h' : ((W < 2 ∨ H < 2) ∨ 256 < W) ∨ 256 < H := by omega
    have HH := Lib.hid h'
    clear h h'
    go_enter Try.func59, Try.ntmps59
    go_wp2
    all_goals first
      | (go_ret; exact ⟨by rw [E.out]; rfl, bl _ _⟩)
      | (exfalso; have := HH.out; omega)
  · obtain ⟨hm1, hm2⟩ := mul_small h
    have d1 : decide (W < 2) = false := decide_eq_false (by omega)
    have d2 : decide (H < 2) = false := decide_eq_false (by omega)
    have d3 : decide (256 < W) = false := decide_eq_false (by omega)
    have d4 : decide (256 < H) = false := decide_eq_false (by omega)
    by_cases e : (n : Int) = W * H
    · have E := Lib.hid (codeH_yes h e)
      have E2 : ((n : Int) == W * H) = true := by rw [beq_iff_eq]; exact e
      have E3 : ((n : Int) != W * H) = false := by rw [bne_eq_false_iff_eq]; exact e
      clear h e
      go_enter Try.func59, Try.ntmps59
      go_wp2
      go_ret
      exact ⟨by rw [E.out]; rfl, bl _ _⟩
    · have E := Lib.hid (codeH_no h e)
      have E2 : ((n : Int) == W * H) = false := by rw [beq_eq_false_iff_ne]; exact e
      have E3 : ((n : Int) != W * H) = true := by rw [bne_iff_ne]; exact e
      clear h e
      go_enter Try.func59, Try.ntmps59
      go_wp2
      go_ret
      exact ⟨by rw [E.out]; rfl, bl _ _⟩
set_option maxRecDepth 100000 in
set_option maxHeartbeats 1000000 in
theorem hcheck_any (W H : Int) (A : Option Addr) (n cap : Nat) (w : World) (hn : n ≤ maxLen) :
    Calls Try.prog 35 #[.agg #[.int .i64 W, .int .i64 H, .slice A n cap]] w fun e w' => e = .returned (.int .i64 (codeH W H n)) ∧ Below w.heap.size w w' := by
  unfold maxLen at hn
  by_cases h : W < 2 ∨ H < 2 ∨ 256 < W ∨ 256 < H
  · have E := Lib.hid (codeH_out (n := n) h)
    have h' : ((W < 2 ∨ 256 < W) ∨ H < 2) ∨ 256 < H := by omega
    have HH := Lib.hid h'
    clear h h'
    go_enter Try.func35, Try.ntmps35
    go_wp2
    all_goals first
      | (go_ret; exact ⟨by rw [E.out]; rfl, bl _ _⟩)
      | (exfalso; have := HH.out; omega)
  · obtain ⟨hm1, hm2⟩ := mul_small h
    have d1 : decide (W < 2) = false := decide_eq_false (by omega)
    have d2 : decide (H < 2) = false := decide_eq_false (by omega)
    have d3 : decide (256 < W) = false := decide_eq_false (by omega)
    have d4 : decide (256 < H) = false := decide_eq_false (by omega)
    by_cases e : (n : Int) = W * H
    · have E := Lib.hid (codeH_yes h e)
      have E2 : ((n : Int) == W * H) = true := by rw [beq_iff_eq]; exact e
      have E3 : ((n : Int) != W * H) = false := by rw [bne_eq_false_iff_eq]; exact e
      clear h e
      go_enter Try.func35, Try.ntmps35
      go_wp2
      go_ret
      exact ⟨by rw [E.out]; rfl, bl _ _⟩
    · have E := Lib.hid (codeH_no h e)
      have E2 : ((n : Int) == W * H) = false := by rw [beq_eq_false_iff_ne]; exact e
      have E3 : ((n : Int) != W * H) = true := by rw [bne_iff_ne]; exact e
      clear h e
      go_enter Try.func35, Try.ntmps35
      go_wp2
      go_ret
      exact ⟨by rw [E.out]; rfl, bl _ _⟩
end Sur
end Go.Proofs.Ytmiplljcnchjkaa
