/-
  The walks of package root and of its reference: roots of 64 bits, divisors.
-/
import Derived.Test.YtmiplljcnchjkaaRootW
namespace Go.Proofs.Ytmiplljcnchjkaa
open Go.RowKit
set_option linter.unusedVariables false
namespace Root

theorem rbits_any (x : Nat) (hx : x < 18446744073709551616) (w : World) :
    Calls Try.prog 16 #[.int .u64 (x : Int)] w fun e w' => e = .returned (.int .i64 (bitLen x : Int)) ∧ w = w' := by
  go_enter Try.func16, Try.ntmps16
  go_wp2_with fail
  refine (len64_any x hx w).mono ?_
  rintro e w' ⟨rfl, rfl⟩
  go_wp2
  go_ret
  exact ⟨rfl, rfl⟩
theorem hat_any (r x : Nat) (hx : x < 18446744073709551616) (w : World) :
    Calls Try.prog 44 #[.int .u64 (r : Int), .int .u64 (x : Int)] w fun e w' => e = .returned (.bool (decide (r * r ≤ x))) ∧ w = w' := by
  by_cases h0 : r = 0
  · subst h0
    go_enter Try.func44, Try.ntmps44
    go_wp2
    go_ret
    exact ⟨by simp, rfl⟩
  · have hz : ((r : Int) == 0) = false := by rw [beq_eq_false_iff_ne]; omega
    have hpos : 0 < r := by omega
    have e1 : (x : Int) / (r : Int) = ((x / r : Nat) : Int) := (Int.natCast_ediv x r).symm
    have e2 : (x : Int).tdiv (r : Int) = ((x / r : Nat) : Int) := by rw [Int.tdiv_eq_ediv_of_nonneg (Int.natCast_nonneg _)]; exact e1
    have hq : x / r ≤ x := Nat.div_le_self _ _
    have hd : decide (r * r ≤ x) = decide (r ≤ x / r) := by
      apply decide_eq_decide.2
      rw [Nat.le_div_iff_mul_le hpos]
    rw [hd]
    obtain ⟨q, hqq⟩ : ∃ q, q = x / r := ⟨_, rfl⟩
    rw [← hqq] at e1 e2 hq ⊢
    have u1 : IntKind.u64.wrap (q : Int) = (q : Int) := IntWalk.u64_in _ (by omega)
    clear hqq hd
    go_enter Try.func44, Try.ntmps44
    go_wp2
    go_ret
    exact ⟨rfl, rfl⟩
set_option maxHeartbeats 1000000 in
theorem hfloor_any (x : Nat) (hx : x < 18446744073709551616) (w : World) :
    Calls Try.prog 12 #[.int .u64 (x : Int)] w fun e w' => ∃ r : Nat, e = .returned (.int .u64 (r : Int)) ∧ IsRoot x r ∧ w = w' := by
  have Hx := Lib.hid hx
  clear hx
  go_enter Try.func12, Try.ntmps12
  go_wp2
  go_loop [3, 4, 5] (fun l h _ => ∃ lo hi : Nat, l = .int .u64 (lo : Int) ∧ h = .int .u64 (hi : Int) ∧ lo < hi ∧ hi ≤ 4294967296 ∧ lo * lo ≤ x ∧ x < hi * hi) (fun l h _ => (intOf h - intOf l).toNat)
  case atStart => exact ⟨0, 4294967296, rfl, rfl, by omega, by omega, by omega, by have := Hx.out; omega⟩
  case round =>
    obtain ⟨lo, hi, rfl, rfl, hlt, hle, h1, h2⟩ := hrel
    have H1 := Lib.hid h1
    have H2 := Lib.hid h2
    clear h1 h2
    have u0 : IntKind.u64.wrap ((hi : Int) - (lo : Int)) = ((hi - lo : Nat) : Int) := by rw [IntWalk.u64_in _ (by omega)]; omega
    obtain ⟨d, hd⟩ : ∃ d, d = hi - lo := ⟨_, rfl⟩
    rw [← hd] at u0
    by_cases h1 : 1 < d
    · have u1 : IntKind.u64.wrap ((lo : Int) + (hi : Int)) = ((lo + hi : Nat) : Int) := by rw [IntWalk.u64_in _ (by omega)]; omega
      obtain ⟨s, hs⟩ : ∃ s, s = lo + hi := ⟨_, rfl⟩
      rw [← hs] at u1
      obtain ⟨m, hm⟩ : ∃ m, m = s / 2 := ⟨_, rfl⟩
      have e1 : (s : Int) / 2 = (m : Int) := by omega
      have e2 : (s : Int).tdiv 2 = (m : Int) := by rw [Int.tdiv_eq_ediv_of_nonneg (Int.natCast_nonneg _)]; exact e1
      have hm1 : lo < m := by omega
      have hm2 : m < hi := by omega
      have u2 : IntKind.u64.wrap (m : Int) = (m : Int) := IntWalk.u64_in _ (by omega)
      have h1i : (1 : Int) < (d : Int) := by omega
      clear hs hm hd
      go_wp2_with fail
      refine (hat_any m x Hx.out w).mono ?_
      rintro e w' ⟨rfl, rfl⟩
      by_cases hc : m * m ≤ x
      · rw [decide_eq_true hc]
        have HC := Lib.hid hc
        clear hc
        go_wp2
        go_round
        case rel => exact ⟨m, hi, rfl, rfl, hm2, hle, HC.out, H2.out⟩
        case measure => simp [intOf]; omega
      · rw [decide_eq_false hc]
        have HC := Lib.hid hc
        clear hc
        go_wp2
        go_round
        case rel => exact ⟨lo, m, rfl, rfl, hm1, by omega, H1.out, Nat.lt_of_not_le HC.out⟩
        case measure => simp [intOf]; omega
    · have h1i : ¬ (1 : Int) < (d : Int) := by omega
      have he : hi = lo + 1 := by omega
      have hr : IsRoot x lo := ⟨H1.out, by have := H2.out; rwa [he] at this⟩
      have Hr := Lib.hid hr
      clear hr he hd
      go_wp2
      go_ret
      exact ⟨lo, rfl, Hr.out, rfl⟩
set_option maxHeartbeats 1000000 in
theorem hbits_any (x : Nat) (hx : x < 18446744073709551616) (w : World) :
    Calls Try.prog 17 #[.int .u64 (x : Int)] w fun e w' => e = .returned (.int .i64 (bitLen x : Int)) ∧ w = w' := by
  have Hx := Lib.hid hx
  clear hx
  go_enter Try.func17, Try.ntmps17
  go_wp2
  go_loop [3, 4] (fun n y => ∃ j : Nat, j ≤ 64 ∧ n = .int .i64 (j : Int) ∧ y = .int .u64 ((x / 2 ^ j : Nat) : Int) ∧ (j = 0 ∨ x / 2 ^ (j - 1) ≠ 0)) (fun n _ => 64 - (intOf n).toNat)
  case atStart => exact ⟨0, by omega, rfl, by simp, .inl rfl⟩
  case round =>
    obtain ⟨j, hj, rfl, rfl, hor⟩ := hrel
    have hyx : x / 2 ^ j ≤ x := Nat.div_le_self _ _
    have hx := Hx.out
    have hnx : x / 2 ^ j / 2 = x / 2 ^ (j + 1) := by rw [Nat.div_div_eq_div_mul, ← Nat.pow_succ]
    have hdone := fun h0 => bitLen_at (x := x) (j := j) h0 hor
    have h64 : x / 2 ^ j ≠ 0 → j < 64 := fun h => by
      apply Classical.byContradiction
      intro hn
      have : 2 ^ 64 ≤ 2 ^ j := Nat.pow_le_pow_right (by decide) (by omega)
      exact h (Nat.div_eq_of_lt (by omega))
    have Hnx := Lib.hid hnx
    have Hdone := Lib.hid hdone
    clear hnx hdone hor
    generalize hy : x / 2 ^ j = y at *
    have Hy := Lib.hid hy
    clear hy
    by_cases h0 : y = 0
    · subst h0
      have hb := Hdone.out rfl
      have Hb := Lib.hid hb
      clear hb Hdone Hnx h64
      go_wp2
      go_ret
      exact ⟨by rw [Hb.out]; rfl, rfl⟩
    · have hj64 := h64 h0
      obtain ⟨z, hz⟩ : ∃ z, z = y / 2 := ⟨_, rfl⟩
      have e1 : (y : Int) / 2 = (z : Int) := by omega
      have e2 : (y : Int).tdiv 2 = (z : Int) := by rw [Int.tdiv_eq_ediv_of_nonneg (Int.natCast_nonneg _)]; exact e1
      have hyp : (0 : Int) < (y : Int) := by omega
      have u2 : IntKind.u64.wrap (z : Int) = (z : Int) := IntWalk.u64_in _ (by omega)
      have Hz : Hid (z = x / 2 ^ (j + 1)) := Lib.hid (by rw [hz, Hnx.out])
      clear hz Hnx Hdone h64
      go_wp2
      go_round
      case rel => exact ⟨j + 1, by omega, by go_num, by rw [Hz.out], .inr (by rw [Nat.add_sub_cancel, Hy.out]; exact h0)⟩
      case measure => simp [intOf]; omega
theorem gcd_step (a b : Nat) (hb : 0 < b) : Nat.gcd b (a % b) = Nat.gcd a b := by
  rw [Nat.gcd_comm a b, Nat.gcd_rec b a, Nat.gcd_comm]
set_option maxHeartbeats 1000000 in
theorem hgcd_any (a b : Nat) (ha : a < 18446744073709551616) (hb : b < 18446744073709551616) (w : World) :
    Calls Try.prog 32 #[.int .u64 (a : Int), .int .u64 (b : Int)] w fun e w' => e = .returned (.int .u64 (Nat.gcd a b : Int)) ∧ w = w' := by
  go_enter Try.func32, Try.ntmps32
  go_wp2
  go_loop [5, 6, 7] (fun p q _ => ∃ m n : Nat, p = .int .u64 (m : Int) ∧ q = .int .u64 (n : Int) ∧ n < 18446744073709551616 ∧ Nat.gcd m n = Nat.gcd a b) (fun _ q _ => (intOf q).toNat)
  case atStart => exact ⟨a, b, rfl, rfl, hb, rfl⟩
  case round =>
    obtain ⟨m, n, rfl, rfl, hn, hg⟩ := hrel
    have Hg := Lib.hid hg
    clear hg
    by_cases h0 : n = 0
    · subst h0
      have hg := Hg.out
      rw [Nat.gcd_zero_right] at hg
      have Hg2 := Lib.hid hg
      clear hg Hg
      go_wp2
      go_ret
      exact ⟨by rw [← Hg2.out]; rfl, rfl⟩
    · have hn0 : 0 < n := by omega
      have e1 : (m : Int) % (n : Int) = ((m % n : Nat) : Int) := (Int.natCast_emod m n).symm
      have e2 : (m : Int).tmod (n : Int) = ((m % n : Nat) : Int) := by rw [Int.tmod_eq_emod_of_nonneg (Int.natCast_nonneg _)]; exact e1
      have hlt : m % n < n := Nat.mod_lt _ hn0
      have hs := gcd_step m n hn0
      rw [Hg.out] at hs
      have Hs := Lib.hid hs
      clear hs Hg
      obtain ⟨r, hr⟩ : ∃ r, r = m % n := ⟨_, rfl⟩
      rw [← hr] at e1 e2 hlt
      have Hr := Lib.hid hr
      clear hr
      have hz : ((n : Int) == 0) = false := by rw [beq_eq_false_iff_ne]; omega
      have hp : (0 : Int) < (n : Int) := by omega
      have u1 : IntKind.u64.wrap (r : Int) = (r : Int) := IntWalk.u64_in _ (by omega)
      go_wp2
      go_round
      case rel => exact ⟨n, r, rfl, rfl, by omega, by rw [Hr.out]; exact Hs.out⟩
      case measure => simp [intOf]; omega
set_option maxHeartbeats 1000000 in
theorem rgcd_any (a b : Nat) (ha : a < 18446744073709551616) (hb : b < 18446744073709551616) (w : World) :
    Calls Try.prog 31 #[.int .u64 (a : Int), .int .u64 (b : Int)] w fun e w' => e = .returned (.int .u64 (Nat.gcd a b : Int)) ∧ ∃ q, w' = w.drewN q := by
  go_enter Try.func31, Try.ntmps31
  go_wp2
  go_loopw [0, 1] (fun p q wr => ∃ m n k : Nat, p = .int .u64 (m : Int) ∧ q = .int .u64 (n : Int) ∧ n < 18446744073709551616 ∧ Nat.gcd m n = Nat.gcd a b ∧ wr = w.drewN k) (fun _ q _ => (intOf q).toNat)
  case atStart => exact ⟨a, b, 0, rfl, rfl, hb, rfl, rfl⟩
  case round =>
    obtain ⟨m, n, k, rfl, rfl, hn, hg, hwr⟩ := hrel
    have Hg := Lib.hid hg
    have Hwr := Lib.hid hwr
    clear hg hwr
    by_cases h0 : n = 0
    · subst h0
      have hg := Hg.out
      rw [Nat.gcd_zero_right] at hg
      have Hg2 := Lib.hid hg
      clear hg Hg
      go_wp2
      go_ret
      exact ⟨by rw [← Hg2.out]; rfl, k, Hwr.out⟩
    · have hn0 : 0 < n := by omega
      have e1 : (m : Int) % (n : Int) = ((m % n : Nat) : Int) := (Int.natCast_emod m n).symm
      have e2 : (m : Int).tmod (n : Int) = ((m % n : Nat) : Int) := by rw [Int.tmod_eq_emod_of_nonneg (Int.natCast_nonneg _)]; exact e1
      have hlt : m % n < n := Nat.mod_lt _ hn0
      have hs := gcd_step m n hn0
      rw [Hg.out] at hs
      have Hs := Lib.hid hs
      clear hs Hg
      obtain ⟨r, hr⟩ : ∃ r, r = m % n := ⟨_, rfl⟩
      rw [← hr] at e1 e2 hlt
      have Hr := Lib.hid hr
      clear hr
      have hz : ((n : Int) == 0) = false := by rw [beq_eq_false_iff_ne]; omega
      have hz2 : ((n : Int) != 0) = true := by rw [bne_iff_ne]; omega
      have u1 : IntKind.u64.wrap (r : Int) = (r : Int) := IntWalk.u64_in _ (by omega)
      go_wp2
      go_quiet (fail)
      go_wp2
      go_roundw
      case rel => exact ⟨n, r, _, rfl, rfl, by omega, by rw [Hr.out]; exact Hs.out, by rw [Hwr.out, World.drewN_drewN]⟩
      case measure => simp [intOf]; omega
end Root
end Go.Proofs.Ytmiplljcnchjkaa
