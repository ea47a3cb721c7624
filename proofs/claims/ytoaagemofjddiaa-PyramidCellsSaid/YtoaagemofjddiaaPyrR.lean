/-
  The walks of the document's answers for a field by halves: sides, powers, ends, what is partly in a box.
-/
import Derived.Test.YtoaagemofjddiaaPyrV
import Derived.Test.YtoaagemofjddiaaPyrT
namespace Go.Proofs.Ytoaagemofjddiaa
open Go.RowKit
set_option linter.unusedVariables false
namespace Pyr

set_option maxRecDepth 100000 in
set_option maxHeartbeats 1000000 in
theorem qside_any (n k : Nat) (hn : n ≤ 1000000) (hk : k ≤ 1000000) (w : World) : Calls Try.prog 18 #[.int .i64 (n : Int), .int .i64 (k : Int)] w fun e w' => e = .returned (.int .i64 (side n k : Int)) ∧ w = w' := by
  go_enter Try.func18, Try.ntmps18
  go_wp2
  go_loopw [5, 6] (fun o i wr => ∃ j : Nat, j ≤ k ∧ i = .int .i64 (j : Int) ∧ o = .int .i64 (side n j : Int) ∧ w = wr) (fun _ i _ => k - (intOf i).toNat)
  case atStart => exact ⟨0, Nat.zero_le _, rfl, rfl, rfl⟩
  case round =>
    obtain ⟨j, hj, rfl, rfl, rfl⟩ := hrel
    have hs := side_self2 n j
    by_cases hlt : j < k
    · have hltI : (j : Int) < (k : Int) := by omega
      have e := side_succ n j
      have HE := Lib.hid e
      clear e
      generalize side n j = s at *
      obtain ⟨t, ht⟩ : ∃ t, t = (s + 1) / 2 := ⟨_, rfl⟩
      rw [← ht] at HE
      have e1 : ((s : Int) + 1).tdiv 2 = (t : Int) := by rw [Int.tdiv_eq_ediv_of_nonneg (by omega)]; omega
      have y1 : IntKind.i64.wrap ((s : Int) + 1) = (s : Int) + 1 := IntWalk.i64_in _ (by omega)
      have y2 : IntKind.i64.wrap (((s : Int) + 1).tdiv 2) = (t : Int) := by rw [e1]; exact IntWalk.i64_in _ (by omega)
      clear e1 ht
      go_wp2
      go_roundw
      case rel => exact ⟨j + 1, by omega, by go_num, by rw [HE.out], trivial⟩
      case measure => simp [intOf]; omega
    · obtain rfl : j = k := by omega
      have hge : ¬ (j : Int) < (j : Int) := by omega
      go_wp2
      go_ret
      exact ⟨rfl, rfl⟩
set_option maxRecDepth 100000 in
set_option maxHeartbeats 1000000 in
theorem qpow_any (k P : Nat) (hP : P = 2 ^ k) (hk : k ≤ 20) (w : World) : Calls Try.prog 44 #[.int .i64 (k : Int)] w fun e w' => e = .returned (.int .i64 (P : Int)) ∧ w = w' := by
  have HPP := Lib.hid hP
  clear hP
  go_enter Try.func44, Try.ntmps44
  go_wp2
  go_loopw [3, 4] (fun o i wr => ∃ (j p : Nat), j ≤ k ∧ i = .int .i64 (j : Int) ∧ o = .int .i64 (p : Int) ∧ p = 2 ^ j ∧ w = wr) (fun _ i _ => k - (intOf i).toNat)
  case atStart => exact ⟨0, 1, by omega, rfl, rfl, rfl, by simp⟩
  case round =>
    obtain ⟨j, p, hj, rfl, rfl, hp, rfl⟩ := hrel
    have hpl : p ≤ 2 ^ 20 := by rw [hp]; exact Nat.pow_le_pow_right (by decide) (by omega)
    have hpl2 : p ≤ 1048576 := hpl
    have HP := Lib.hid hp
    clear hp hpl
    by_cases hlt : j < k
    · have hltI : (j : Int) < (k : Int) := by omega
      have y1 : IntKind.i64.wrap (2 * (p : Int)) = 2 * (p : Int) := IntWalk.i64_in _ (by omega)
      go_wp2
      go_roundw
      case rel => exact ⟨j + 1, 2 * p, by omega, by go_num, by go_num, by rw [HP.out, Nat.pow_succ, Nat.mul_comm], trivial⟩
      case measure => simp [intOf]; omega
    · obtain rfl : j = k := by omega
      have hge : ¬ (j : Int) < (j : Int) := by omega
      go_wp2
      go_ret
      exact ⟨by rw [HPP.out, ← HP.out]; rfl, rfl⟩
def endv (x s n : Nat) : Int := min ((x : Int) * (s : Int) + (s : Int)) (n : Int) - 1
set_option maxRecDepth 100000 in
set_option maxHeartbeats 1000000 in
theorem qend_any (x s n : Nat) (hx : x ≤ 1000) (hs : s ≤ 1000000) (hn : n ≤ 1000000) (w : World) : Calls Try.prog 45 #[.int .i64 (x : Int), .int .i64 (s : Int), .int .i64 (n : Int)] w fun e w' => e = .returned (.int .i64 (endv x s n)) ∧ w = w' := by
  have hm : ((x : Int) + 1) * (s : Int) = ((x * s + s : Nat) : Int) := by rw [Int.natCast_add, Int.natCast_mul, Int.add_mul, Int.one_mul]
  have hml : x * s + s ≤ 1001 * 1000000 := by have := Nat.mul_le_mul hx hs; omega
  have he : endv x s n = min ((x * s + s : Nat) : Int) (n : Int) - 1 := by unfold endv; rw [Int.natCast_add, Int.natCast_mul]
  generalize x * s + s = m at *
  have y0 : IntKind.i64.wrap ((x : Int) + 1) = (x : Int) + 1 := IntWalk.i64_in _ (by omega)
  have y1 : IntKind.i64.wrap (((x : Int) + 1) * (s : Int)) = (m : Int) := by rw [hm]; exact IntWalk.i64_in _ (by omega)
  have HE := Lib.hid he
  clear he
  by_cases hc : n < m
  · have c1 : (n : Int) < (m : Int) := by omega
    go_enter Try.func45, Try.ntmps45
    go_wp2
    go_ret
    exact ⟨by rw [HE.out, show min (m : Int) (n : Int) = (n : Int) by omega]; rfl, rfl⟩
  · have c1 : ¬ (n : Int) < (m : Int) := by omega
    go_enter Try.func45, Try.ntmps45
    go_wp2
    go_ret
    exact ⟨by rw [HE.out, show min (m : Int) (n : Int) = (m : Int) by omega]; rfl, rfl⟩
set_option maxRecDepth 100000 in
set_option maxHeartbeats 1000000 in
theorem qpartly_any (a b : Bo) (w : World) : Calls Try.prog 50 #[.int .i64 a.x0, .int .i64 a.y0, .int .i64 a.x1, .int .i64 a.y1, .int .i64 b.x0, .int .i64 b.y0, .int .i64 b.x1, .int .i64 b.y1] w fun e w' => e = .returned (.bool (!(apart a b) && !(inside a b))) ∧ w = w' := by
  have hp : (!(apart a b) && !(inside a b)) = (!(decide (b.x1 < a.x0) || decide (a.x1 < b.x0) || decide (b.y1 < a.y0) || decide (a.y1 < b.y0)) && (decide (a.x0 < b.x0) || decide (b.x1 < a.x1) || decide (a.y0 < b.y0) || decide (b.y1 < a.y1))) := by
    unfold apart inside
    rw [Bool.eq_iff_iff]
    simp
    omega
  have HP := Lib.hid hp
  clear hp
  obtain ⟨a0, a1, a2, a3⟩ := a
  obtain ⟨b0, b1, b2, b3⟩ := b
  go_enter Try.func50, Try.ntmps50
  go_wp2
  all_goals
    go_ret
    exact ⟨ret_bool (by first | (rw [HP.out]; done) | (rw [HP.out]; simp; done) | (rw [HP.out]; simp; omega)), rfl⟩
end Pyr
end Go.Proofs.Ytoaagemofjddiaa
