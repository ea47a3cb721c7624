/-
  The walk of the reference: how much ground tells.
-/
import Derived.Test.YtmiplljcnchjkaaSurX
namespace Go.Proofs.Ytmiplljcnchjkaa
open Go.RowKit
set_option linter.unusedVariables false
namespace Sur
open Num (nv of_pos mul_any div0_any)
theorem infoR_bad (r s : Int) (h : r < 0 ∨ 1048576 < r ∨ s < 1 ∨ 1048576 < s) (w : World) :
    Calls Try.prog 40 #[.int .i64 r, .int .i64 s] w fun e w' => e = .returned (.tuple #[.int .i64 0, .int .i64 2]) ∧ w = w' := by
  by_cases h1 : r < 0
  · have d1 : decide (r < 0) = true := decide_eq_true h1
    go_enter Try.func40, Try.ntmps40
    go_wp2_with fail
    go_ret2
    exact ⟨rfl, rfl⟩
  · have d1 : decide (r < 0) = false := decide_eq_false h1
    by_cases h2 : 1048576 < r
    · have d2 : decide (1048576 < r) = true := decide_eq_true h2
      go_enter Try.func40, Try.ntmps40
      go_wp2_with fail
      go_ret2
      exact ⟨rfl, rfl⟩
    · have d2 : decide (1048576 < r) = false := decide_eq_false h2
      by_cases h3 : s < 1
      · have d3 : decide (s < 1) = true := decide_eq_true h3
        go_enter Try.func40, Try.ntmps40
        go_wp2_with fail
        go_ret2
        exact ⟨rfl, rfl⟩
      · have d3 : decide (s < 1) = false := decide_eq_false h3
        have d4 : decide (1048576 < s) = true := decide_eq_true (by omega)
        go_enter Try.func40, Try.ntmps40
        go_wp2_with fail
        go_ret2
        exact ⟨rfl, rfl⟩
set_option maxRecDepth 100000 in
set_option maxHeartbeats 1000000 in
theorem infoR_ok (r s : Nat) (hr : r ≤ 1048576) (hs1 : 1 ≤ s) (hs : s ≤ 1048576) (w : World) :
    Calls Try.prog 40 #[.int .i64 (r : Int), .int .i64 (s : Int)] w fun e w' => e = .returned (.tuple #[.int .i64 (infoN r s : Int), .int .i64 0]) ∧ Below w.heap.size w w' := by
  have hpl := part_le hr hs1
  obtain ⟨l1, l2⟩ := info_log hr hs1
  obtain ⟨p, hp⟩ : ∃ p, partN r s = p := ⟨_, rfl⟩
  obtain ⟨rr, hrr⟩ : ∃ rr, r * r = rr := ⟨_, rfl⟩
  obtain ⟨ss, hss⟩ : ∃ ss, s * s = ss := ⟨_, rfl⟩
  have b1 : rr ≤ 1048576 * 1048576 := by rw [← hrr]; exact Nat.mul_le_mul hr hr
  have b2 : ss ≤ 1048576 * 1048576 := by rw [← hss]; exact Nat.mul_le_mul hs hs
  have b3 : 1 ≤ ss := by rw [← hss]; exact Nat.mul_le_mul hs1 hs1
  obtain ⟨P, hP⟩ : ∃ P, rr * 65536 = P := ⟨_, rfl⟩
  have m1 := mul_any (rr : Int) 65536 false rr 65536 P (fun w => of_pos rr (by omega) w) (fun w => of_pos 65536 (by omega) w) (by omega) (by omega) hP
  have m2 := div0_any P ss p (by omega) (by omega) (by omega) (by rw [← hP, ← hp, ← hrr, ← hss]; rfl) (by rw [hp] at hpl; omega)
  have m3 := logR_any (p + 65536) (by omega) (by rw [hp] at hpl; omega)
  have hin : Hid (infoN r s = (logL (p + 65536) - 1048576) / 2) := Lib.hid (by unfold infoN; rw [hp])
  rw [hp] at l1 l2 hpl
  obtain ⟨lg, hlg⟩ : ∃ lg, lg = logL (p + 65536) := ⟨_, rfl⟩
  rw [← hlg] at m3 l1 l2 hin
  obtain ⟨d, hd⟩ : ∃ d, d = lg - 1048576 := ⟨_, rfl⟩
  rw [← hd] at hin
  have e1 : IntKind.i64.wrap ((lg : Int) - 1048576) = (d : Int) := by rw [IntWalk.i64_in _ (by omega)]; omega
  have e2 : (d : Int) / 2 = ((d / 2 : Nat) : Int) := by omega
  have e3 : (d : Int).tdiv 2 = ((d / 2 : Nat) : Int) := by rw [Int.tdiv_eq_ediv_of_nonneg (by omega)]; exact e2
  rw [← hin.out] at e2 e3
  obtain ⟨f, hf⟩ : ∃ f, f = infoN r s := ⟨_, rfl⟩
  rw [← hf] at e2 e3 hin ⊢
  have hfl := hin.out
  have e4 : IntKind.i64.wrap (f : Int) = (f : Int) := IntWalk.i64_in _ (by omega)
  have e5 : IntKind.i64.wrap ((r : Int) * (r : Int)) = (rr : Int) := by rw [← hrr, IntWalk.i64_in _ (by rw [← Int.natCast_mul, hrr]; omega)]; exact (Int.natCast_mul r r).symm
  have e6 : IntKind.i64.wrap ((s : Int) * (s : Int)) = (ss : Int) := by rw [← hss, IntWalk.i64_in _ (by rw [← Int.natCast_mul, hss]; omega)]; exact (Int.natCast_mul s s).symm
  have e7 : IntKind.i64.wrap ((p : Int) + 65536) = ((p + 65536 : Nat) : Int) := by rw [IntWalk.i64_in _ (by omega)]; omega
  have e8 : IntKind.u64.wrap ((p : Int) + 65536) = ((p + 65536 : Nat) : Int) := by rw [IntWalk.u64_in _ (by omega)]; omega
  have d1 : decide ((r : Int) < 0) = false := decide_eq_false (by omega)
  have d2 : decide ((1048576 : Int) < (r : Int)) = false := decide_eq_false (by omega)
  have d3 : decide ((s : Int) < 1) = false := decide_eq_false (by omega)
  have d4 : decide ((1048576 : Int) < (s : Int)) = false := decide_eq_false (by omega)
  clear hp hrr hss hlg hd hf hfl hin hr hs hs1 b1 b2 b3 hpl l1 l2 hP
  go_enter Try.func40, Try.ntmps40
  go_wp2_with fail
  refine (m1 _).mono ?_
  rintro e w2 ⟨rfl, hb2⟩
  have HB2 := Lib.hid hb2
  clear hb2 m1
  go_wp2_with fail
  refine (m2 _).mono ?_
  rintro e w3 ⟨rfl, hb3⟩
  have HB3 := Lib.hid (bt HB2.out hb3)
  clear hb3 m2
  go_wp2_with fail
  refine (m3 _).mono ?_
  rintro e w4 ⟨rfl, hb4⟩
  have HB4 := Lib.hid (bt HB3.out hb4)
  clear hb4 m3
  go_wp2_with fail
  go_ret2
  exact ⟨rfl, HB4.out⟩
end Sur
end Go.Proofs.Ytmiplljcnchjkaa
