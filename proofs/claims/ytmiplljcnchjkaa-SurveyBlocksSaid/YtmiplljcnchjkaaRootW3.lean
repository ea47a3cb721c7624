/-
  The walks of package root: the root of 64 bits, rounded down, up, to the nearer one.
-/
import Derived.Test.YtmiplljcnchjkaaRootW2
namespace Go.Proofs.Ytmiplljcnchjkaa
open Go.RowKit
set_option linter.unusedVariables false
namespace Root

set_option maxRecDepth 100000 in
set_option maxHeartbeats 1000000 in
theorem rfloor_any (x : Nat) (hx : x < 18446744073709551616) (w : World) :
    Calls Try.prog 13 #[.int .u64 (x : Int)] w fun e w' => ∃ r : Nat, e = .returned (.int .u64 (r : Int)) ∧ IsRoot x r ∧ w = w' := by
  have Hx := Lib.hid hx
  have hbl := bitLen_le hx
  have hst := RB.start (bitLen_half x)
  obtain ⟨s, hs⟩ : ∃ s, s = bitLen x := ⟨_, rfl⟩
  obtain ⟨a, ha⟩ : ∃ a, a = (s + 1) / 2 := ⟨_, rfl⟩
  rw [← hs, ← ha] at hst
  have hsl : s ≤ 64 := by omega
  have ha32 : a ≤ 32 := by omega
  have Hst := Lib.hid hst
  have Hs := Lib.hid hs
  have e1 : ((s : Int) + 1) / 2 = (a : Int) := by omega
  have e2 : ((s : Int) + 1).tdiv 2 = (a : Int) := by rw [Int.tdiv_eq_ediv_of_nonneg (by omega)]; exact e1
  have u0 : IntKind.i64.wrap ((s : Int) + 1) = (s : Int) + 1 := IntWalk.i64_in _ (by omega)
  clear hx hbl hst hs ha
  go_enter Try.func13, Try.ntmps13
  go_wp2_with fail
  refine (rbits_any x Hx.out w).mono ?_
  rw [← Hs.out]
  rintro e w' ⟨rfl, rfl⟩
  go_wp2
  go_loop [3, 4, 5] (fun q i _ => ∃ (r : Nat) (at' : Int), q = .int .u64 (r : Int) ∧ i = .int .i64 at' ∧ -1 ≤ at' ∧ at' ≤ 32 ∧ RB x r (at' + 1).toNat) (fun _ i _ => (intOf i + 1).toNat)
  case atStart => exact ⟨0, (a : Int), rfl, rfl, by omega, by omega, by rw [show ((a : Int) + 1).toNat = a + 1 by omega]; exact Hst.out⟩
  case round =>
    clear Hst
    obtain ⟨r, at', rfl, rfl, h1, h2, hrb⟩ := hrel
    have Hrb := Lib.hid hrb
    clear hrb
    by_cases h0 : 0 ≤ at'
    · obtain ⟨k, rfl⟩ : ∃ k : Nat, at' = (k : Int) := ⟨at'.toNat, by omega⟩
      have hrb := Hrb.out
      rw [show ((k : Int) + 1).toNat = k + 1 by omega] at hrb
      have hrl := hrb.lt Hx.out
      have hor := hrb.or (by omega) (by omega)
      have hyes := fun h => hrb.yes h
      have hno := fun h => hrb.no h
      have Hyes := Lib.hid hyes
      have Hno := Lib.hid hno
      clear hrb Hrb hyes hno
      have hpk : 2 ^ k ≤ 4294967296 := Nat.le_trans (Nat.pow_le_pow_right (by decide) (show k ≤ 32 by omega)) (by decide)
      have hpe : (2 : Int) ^ k = ((2 ^ k : Nat) : Int) := by simp
      obtain ⟨e, he⟩ : ∃ e, e = 2 ^ k := ⟨_, rfl⟩
      rw [← he] at hpk hpe hor
      obtain ⟨nx, hnx⟩ : ∃ nx, nx = r + e := ⟨_, rfl⟩
      rw [← hnx] at hor
      have Hnx : Hid (nx = r + 2 ^ k) := Lib.hid (by rw [hnx, he])
      have hnl : nx ≤ 8589934592 := by omega
      clear he hnx

      have i0 : (k : Int) < 64 := by omega
      have i1 : (k : Int) ≤ 64 := by omega
      have i2 : (0 : Int) ≤ (k : Int) := by omega
      have u1 : IntKind.u64.wrap (e : Int) = (e : Int) := IntWalk.u64_in _ (by omega)
      have u2 : IntKind.i64.wrap ((k : Int) - 1) = (k : Int) - 1 := IntWalk.i64_in _ (by omega)
      obtain ⟨sq, hsq⟩ : ∃ sq, sq = nx * nx := ⟨_, rfl⟩
      have hsi : (nx : Int) * (nx : Int) = (sq : Int) := by rw [hsq, Int.natCast_mul]
      have Hsq : Hid (sq = nx * nx) := Lib.hid hsq
      have hxx := Hx.out
      by_cases hbig : nx < 4294967296
      · have hs2 : sq ≤ 18446744065119617025 := by
          rw [hsq]
          exact Nat.mul_le_mul (show nx ≤ 4294967295 by omega) (show nx ≤ 4294967295 by omega)
        clear hsq
        have u3 : IntKind.u64.wrap ((nx : Int) * (nx : Int)) = (sq : Int) := by rw [hsi]; exact IntWalk.u64_in _ (by omega)
        have hbi : (nx : Int) < 4294967296 := by omega
        clear hsi hs2 hbig hxx
        by_cases hc : sq ≤ x
        · have hci : (sq : Int) ≤ (x : Int) := by omega
          have hy := Hyes.out (by rw [← Hnx.out, ← Hsq.out]; exact hc)
          rw [← Hnx.out] at hy
          have Hy := Lib.hid hy
          clear hy Hyes Hno
          go_wp2
          go_round
          case rel => exact ⟨nx, (k : Int) - 1, rfl, rfl, by omega, by omega, by rw [show ((k : Int) - 1 + 1).toNat = k by omega]; exact Hy.out⟩
          case measure => first | (simp [intOf]; done) | (simp [intOf]; omega)
        · have hci : ¬ (sq : Int) ≤ (x : Int) := by omega
          have hy := Hno.out (by rw [← Hnx.out, ← Hsq.out]; omega)
          have Hy := Lib.hid hy
          clear hy Hyes Hno
          go_wp2
          go_round
          case rel => exact ⟨r, (k : Int) - 1, rfl, rfl, by omega, by omega, by rw [show ((k : Int) - 1 + 1).toNat = k by omega]; exact Hy.out⟩
          case measure => first | (simp [intOf]; done) | (simp [intOf]; omega)
      · have hbi : ¬ (nx : Int) < 4294967296 := by omega
        have hs2 : x < sq := by
          rw [hsq]
          exact Nat.lt_of_lt_of_le hxx (Nat.mul_le_mul (show 4294967296 ≤ nx by omega) (show 4294967296 ≤ nx by omega))
        have hy := Hno.out (by rw [← Hnx.out, ← Hsq.out]; exact hs2)
        have Hy := Lib.hid hy
        clear hy Hyes Hno hsq
        go_wp2
        go_round
        case rel => exact ⟨r, (k : Int) - 1, rfl, rfl, by omega, by omega, by rw [show ((k : Int) - 1 + 1).toNat = k by omega]; exact Hy.out⟩
        case measure => first | (simp [intOf]; done) | (simp [intOf]; omega)
    · have hat : at' = -1 := Int.le_antisymm (by omega) h1
      subst hat
      have hr := Hrb.out.done
      have Hr := Lib.hid hr
      clear hr Hrb
      go_wp2
      go_ret
      exact ⟨r, rfl, Hr.out, rfl⟩
set_option maxHeartbeats 1000000 in
theorem rceil_any (x : Nat) (hx : x < 18446744073709551616) (w : World) :
    Calls Try.prog 14 #[.int .u64 (x : Int)] w fun e w' => ∃ r : Nat, IsRoot x r ∧ e = .returned (.int .u64 ((if r * r = x then r else r + 1 : Nat) : Int)) ∧ w = w' := by
  go_enter Try.func14, Try.ntmps14
  go_wp2_with fail
  refine (rfloor_any x hx w).mono ?_
  rintro e w' ⟨r, rfl, hr, rfl⟩
  have hrl := hr.lt hx
  have hle := hr.1
  have Hr := Lib.hid hr
  obtain ⟨sq, hsq⟩ : ∃ sq, sq = r * r := ⟨_, rfl⟩
  have hsi : (r : Int) * (r : Int) = (sq : Int) := by rw [hsq, Int.natCast_mul]
  have Hsq := Lib.hid hsq
  rw [← hsq] at hle
  have u1 : IntKind.u64.wrap (sq : Int) = (sq : Int) := IntWalk.u64_in _ (by omega)
  have u2 : IntKind.u64.wrap ((r : Int) + 1) = ((r + 1 : Nat) : Int) := by rw [IntWalk.u64_in _ (by omega)]; omega
  clear hr hsq
  by_cases hc : sq < x
  · have hci : (sq : Int) < (x : Int) := by omega
    go_wp2
    go_ret
    exact ⟨r, Hr.out, by rw [← Hsq.out, if_neg (by omega)]; first | rfl | go_num, rfl⟩
  · have hci : ¬ (sq : Int) < (x : Int) := by omega
    go_wp2
    go_ret
    exact ⟨r, Hr.out, by rw [← Hsq.out, if_pos (by omega)]; rfl, rfl⟩
set_option maxHeartbeats 1000000 in
theorem rnear_any (x : Nat) (hx : x < 18446744073709551616) (w : World) :
    Calls Try.prog 15 #[.int .u64 (x : Int)] w fun e w' => ∃ r : Nat, IsRoot x r ∧ e = .returned (.int .u64 ((if r < x - r * r then r + 1 else r : Nat) : Int)) ∧ w = w' := by
  go_enter Try.func15, Try.ntmps15
  go_wp2_with fail
  refine (rfloor_any x hx w).mono ?_
  rintro e w' ⟨r, rfl, hr, rfl⟩
  have hrl := hr.lt hx
  have hle := hr.1
  have Hr := Lib.hid hr
  obtain ⟨sq, hsq⟩ : ∃ sq, sq = r * r := ⟨_, rfl⟩
  have hsi : (r : Int) * (r : Int) = (sq : Int) := by rw [hsq, Int.natCast_mul]
  have Hsq := Lib.hid hsq
  rw [← hsq] at hle
  have u1 : IntKind.u64.wrap (sq : Int) = (sq : Int) := IntWalk.u64_in _ (by omega)
  have u2 : IntKind.u64.wrap ((r : Int) + 1) = ((r + 1 : Nat) : Int) := by rw [IntWalk.u64_in _ (by omega)]; omega
  obtain ⟨d, hd⟩ : ∃ d, d = x - sq := ⟨_, rfl⟩
  have u3 : IntKind.u64.wrap ((x : Int) - (sq : Int)) = (d : Int) := by rw [IntWalk.u64_in _ (by omega)]; omega
  have Hd := Lib.hid hd
  clear hr hsq hd
  by_cases hc : r < d
  · have hci : (r : Int) < (d : Int) := by omega
    go_wp2
    go_ret
    exact ⟨r, Hr.out, by rw [← Hsq.out, ← Hd.out, if_pos hc]; first | rfl | go_num, rfl⟩
  · have hci : ¬ (r : Int) < (d : Int) := by omega
    go_wp2
    go_ret
    exact ⟨r, Hr.out, by rw [← Hsq.out, ← Hd.out, if_neg hc]; rfl, rfl⟩
end Root
end Go.Proofs.Ytmiplljcnchjkaa
