/-
  The walks of package wide's MulDiv (rounded down, of numbers that are not below 0), of expo.Log and of survey.Info.
-/
import Derived.Test.YtmiplljcnchjkaaRootV
import Derived.Test.YtmiplljcnchjkaaSurP
import Derived.Test.YtmiplljcnchjkaaNumF
namespace Go.Proofs.Ytmiplljcnchjkaa
open Go.RowKit
set_option linter.unusedVariables false
namespace Sur
open Root

theorem up0_any (r b : Nat) (w : World) : Calls Try.prog 83 #[.int .i64 0, .int .u64 (r : Int), .int .u64 (b : Int), .bool false] w fun e w' => e = .returned (.bool false) ∧ w = w' := by
  by_cases h : r = 0
  · subst h
    go_enter Try.func83, Try.ntmps83
    go_wp2
    go_ret
    exact ⟨rfl, rfl⟩
  · have d : ((r : Int) == 0) = false := by rw [beq_eq_false_iff_ne]; omega
    go_enter Try.func83, Try.ntmps83
    go_wp2
    go_ret
    exact ⟨rfl, rfl⟩
theorem signed_any (q : Nat) (hq : q < 9223372036854775808) (w : World) : Calls Try.prog 84 #[.int .u64 (q : Int), .bool false] w fun e w' => e = .returned (.tuple #[.int .i64 (q : Int), .bool true]) ∧ w = w' := by
  have u1 : IntKind.i64.wrap (q : Int) = (q : Int) := IntWalk.i64_in _ (by omega)
  have d : decide ((q : Int) < 9223372036854775808) = true := decide_eq_true (by omega)
  go_enter Try.func84, Try.ntmps84
  go_wp2
  go_ret2
  exact ⟨rfl, rfl⟩
theorem div64_any (l y q r : Nat) (hl : l < 18446744073709551616) (hy : 1 ≤ y) (hq : l / y = q) (hr : l % y = r) (w : World) :
    Calls Try.prog 82 #[.int .u64 0, .int .u64 (l : Int), .int .u64 (y : Int)] w fun e w' => e = .returned (.tuple #[.int .u64 (q : Int), .int .u64 (r : Int)]) ∧ Below w.heap.size w w' := by
  have e1 : (l : Int) / (y : Int) = (q : Int) := by rw [← hq]; exact (Int.natCast_ediv l y).symm
  have e2 : (l : Int).tdiv (y : Int) = (q : Int) := by rw [Int.tdiv_eq_ediv_of_nonneg (Int.natCast_nonneg _)]; exact e1
  have e3 : (l : Int) % (y : Int) = (r : Int) := by rw [← hr]; exact (Int.natCast_emod l y).symm
  have e4 : (l : Int).tmod (y : Int) = (r : Int) := by rw [Int.tmod_eq_emod_of_nonneg (Int.natCast_nonneg _)]; exact e3
  have hql : q ≤ l := by rw [← hq]; exact Nat.div_le_self _ _
  have hrl : r ≤ l := by rw [← hr]; exact Nat.mod_le _ _
  have u1 : IntKind.u64.wrap (q : Int) = (q : Int) := IntWalk.u64_in _ (by omega)
  have u2 : IntKind.u64.wrap (r : Int) = (r : Int) := IntWalk.u64_in _ (by omega)
  have d1 : ((y : Int) == 0) = false := by rw [beq_eq_false_iff_ne]; omega
  have d2 : decide ((y : Int) ≤ 0) = false := decide_eq_false (by omega)
  have d3 : decide (y ≤ 0) = false := decide_eq_false (by omega)
  have d4 : ¬ y = 0 := by omega
  clear hq hr
  go_enter Try.func82, Try.ntmps82
  go_wp2_with fail
  go_quiet (fail)
  go_wp2_with fail
  go_ret2
  exact ⟨rfl, below_drewN (Below.refl _ _) _⟩
set_option maxRecDepth 100000 in
set_option maxHeartbeats 1000000 in
theorem wmul_any (a b P h l : Nat) (ha : a < 9223372036854775808) (hb : b < 9223372036854775808) (hP : a * b = P) (hh : P / 18446744073709551616 = h) (hl : P % 18446744073709551616 = l) (w : World) :
    Calls Try.prog 46 #[.int .i64 (a : Int), .int .i64 (b : Int)] w fun e w' => e = .returned (.agg #[.int .i64 (h : Int), .int .u64 (l : Int)]) ∧ Below w.heap.size w w' := by
  have hmm : a * b ≤ 9223372036854775808 * 9223372036854775808 := Nat.mul_le_mul (by omega) (by omega)
  rw [hP] at hmm
  have HP := Lib.hid hP
  have Hh := Lib.hid hh
  have Hl := Lib.hid hl
  have u1 : IntKind.i64.wrap (h : Int) = (h : Int) := IntWalk.i64_in _ (by omega)
  have m1 := wmag_any (a : Int) (by omega) (by omega)
  have m2 := wmag_any (b : Int) (by omega) (by omega)
  rw [Int.natAbs_natCast] at m1 m2
  have m3 := mul64_any a b (by omega) (by omega)
  rw [hP, hh, hl] at m3
  have d1 : decide ((a : Int) < 0) = false := decide_eq_false (by omega)
  have d2 : decide ((b : Int) < 0) = false := decide_eq_false (by omega)
  clear hmm hP hh hl ha hb
  go_enter Try.func46, Try.ntmps46
  go_wp2_with fail
  refine (m1 _).mono ?_
  rintro e w' ⟨rfl, rfl⟩
  go_wp2_with fail
  refine (m2 _).mono ?_
  rintro e w' ⟨rfl, rfl⟩
  go_wp2_with fail
  refine (m3 _).mono ?_
  rintro e w' ⟨rfl, rfl⟩
  go_wp2_with fail
  simp [bodyPost, results, Try.results46, go_sem]
  exact _root_.Go.Proofs.Ytmiplljcnchjkaa.bt (bl _ _) (bl _ _)
set_option maxRecDepth 100000 in
set_option maxHeartbeats 1000000 in
theorem wdiv_any (l y q : Nat) (hl : l < 18446744073709551616) (hy : 1 ≤ y) (hy2 : y < 9223372036854775808) (hq : l / y = q) (hq2 : q < 9223372036854775808) (w : World) :
    Calls Try.prog 73 #[.agg #[.int .i64 0, .int .u64 (l : Int)], .int .i64 (y : Int), .int .i64 0] w fun e w' => e = .returned (.tuple #[.int .i64 (q : Int), .int .i64 0]) ∧ Below w.heap.size w w' := by
  obtain ⟨r, hr⟩ : ∃ r, l % y = r := ⟨_, rfl⟩
  have m1 := wmag_any (y : Int) (by omega) (by omega)
  rw [Int.natAbs_natCast] at m1
  have m2 := div64_any l y q r hl hy hq hr
  have m3 := up0_any r y
  have m4 := signed_any q hq2
  have d1 : ((y : Int) == 0) = false := by rw [beq_eq_false_iff_ne]; omega
  have d2 : decide ((y : Int) < 0) = false := decide_eq_false (by omega)
  have d3 : decide ((y : Int) ≤ 0) = false := decide_eq_false (by omega)
  have d4 : decide (y ≤ 0) = false := decide_eq_false (by omega)
  have d5 : ¬ y = 0 := by omega
  clear hl hq hr
  go_enter Try.func73, Try.ntmps73
  go_wp2_with fail
  refine (m1 _).mono ?_
  rintro e w2 ⟨rfl, rfl⟩
  go_wp2_with fail
  refine (m2 _).mono ?_
  rintro e w3 ⟨rfl, hb3⟩
  have HB3 := Lib.hid hb3
  clear hb3
  go_wp2_with fail
  refine (m3 _).mono ?_
  rintro e w4 ⟨rfl, rfl⟩
  go_wp2_with fail
  refine (m4 _).mono ?_
  rintro e w5 ⟨rfl, rfl⟩
  go_wp2_with fail
  go_ret2
  exact ⟨rfl, bt (bt (bl _ _) (bl _ _)) HB3.out⟩
set_option maxRecDepth 100000 in
theorem muldiv_any (a b c P q : Nat) (ha : a < 9223372036854775808) (hb : b < 9223372036854775808) (hc : 1 ≤ c) (hc2 : c < 9223372036854775808) (hP : a * b = P) (hPl : P < 18446744073709551616) (hq : P / c = q) (hq2 : q < 9223372036854775808) (w : World) :
    Calls Try.prog 62 #[.int .i64 (a : Int), .int .i64 (b : Int), .int .i64 (c : Int), .int .i64 0] w fun e w' => e = .returned (.tuple #[.int .i64 (q : Int), .int .i64 0]) ∧ Below w.heap.size w w' := by
  have m1 := wmul_any a b P 0 P ha hb hP (Nat.div_eq_of_lt hPl) (Nat.mod_eq_of_lt hPl)
  have m2 := wdiv_any P c q hPl hc hc2 hq hq2
  clear ha hb hP hPl hq
  go_enter Try.func62, Try.ntmps62
  go_wp2_with fail
  refine (m1 _).mono ?_
  rintro e w2 ⟨rfl, hb2⟩
  have HB2 := Lib.hid hb2
  clear hb2
  go_wp2_with fail
  refine (m2 _).mono ?_
  rintro e w3 ⟨rfl, hb3⟩
  have HB3 := Lib.hid (bt HB2.out hb3)
  clear hb3
  go_wp2_with fail
  go_ret2
  exact ⟨rfl, HB3.out⟩
theorem or_i64 (o : Nat) (h : o < 4194304) : Go.bits .or .i64 ((2 * o : Nat) : Int) 1 = ((2 * o + 1 : Nat) : Int) := by
  unfold Go.bits
  have e : (BitVec.ofInt IntKind.i64.bits ((2 * o : Nat) : Int) ||| BitVec.ofInt IntKind.i64.bits ((1 : Nat) : Int)).toNat = 2 * o + 1 := by
    rw [BitVec.toNat_or]
    have h1 : ∀ m : Nat, m < 18446744073709551616 → (BitVec.ofInt IntKind.i64.bits (m : Int)).toNat = m := fun m hm => by
      rw [BitVec.toNat_ofInt]
      show ((m : Int) % ((2 ^ 64 : Nat) : Int)).toNat = m
      omega
    rw [h1 (2 * o) (by omega), h1 1 (by omega)]
    exact (Nat.two_pow_add_eq_or_of_lt (i := 1) (by omega) o).symm
  show IntKind.i64.wrap (((BitVec.ofInt IntKind.i64.bits ((2 * o : Nat) : Int) ||| BitVec.ofInt IntKind.i64.bits ((1 : Nat) : Int)).toNat : Nat) : Int) = _
  rw [e]
  exact IntWalk.i64_in _ (by omega)
theorem bitLen_log {x : Nat} (h1 : 1 ≤ x) : bitLen x = x.log2 + 1 := by
  obtain ⟨b1, b2⟩ := log_bounds h1
  refine bitLen_at (Nat.div_eq_of_lt b2) (.inr ?_)
  rw [Nat.add_sub_cancel]
  have := Nat.div_pos b1 (Nat.two_pow_pos _)
  omega
theorem mant_shift {x : Nat} (h1 : 1 ≤ x) (hx : x < 2 ^ 64) : x * 2 ^ (63 - x.log2) < 2 ^ 64 ∧ x * 2 ^ (63 - x.log2) / 2 = mant x := by
  have hl := log_lt h1 hx
  obtain ⟨b1, b2⟩ := log_bounds h1
  have e2 : 2 ^ (x.log2 + 1) * 2 ^ (63 - x.log2) = 2 ^ 64 := by rw [← Nat.pow_add]; congr 1; omega
  have h4 := Nat.mul_lt_mul_of_pos_right b2 (Nat.two_pow_pos (63 - x.log2))
  rw [e2] at h4
  refine ⟨h4, ?_⟩
  unfold mant
  by_cases h : x.log2 = 63
  · rw [if_pos h, h, Nat.sub_self, Nat.pow_zero, Nat.mul_one]
  · rw [if_neg h]
    have e : 2 ^ (63 - x.log2) = 2 ^ (62 - x.log2) * 2 := by rw [← Nat.pow_succ]; congr 1; omega
    rw [e, ← Nat.mul_assoc, Nat.mul_div_cancel _ (by decide)]
set_option maxRecDepth 100000 in
set_option maxHeartbeats 1000000 in
theorem log_any (x : Nat) (h1 : 1 ≤ x) (hx : x < 18446744073709551616) (w : World) :
    Calls Try.prog 63 #[.int .u64 (x : Int)] w fun e w' => e = .returned (.tuple #[.int .i64 (logL x : Int), .int .i64 0]) ∧ w = w' := by
  have hb := rbits_any x hx
  rw [bitLen_log h1] at hb
  obtain ⟨s1, s2⟩ := mant_shift h1 hx
  have hl := log_lt h1 hx
  have HM := Lib.hid (fun i => logS_man h1 hx i)
  have HL := Lib.hid (fun i hi => logS_lt h1 hx i hi)
  have HN : Hid (logS x 0 = (x.log2, mant x)) := Lib.hid rfl
  obtain ⟨n, hn⟩ : ∃ n, n = x.log2 := ⟨_, rfl⟩
  rw [← hn] at hb s1 s2 hl HN
  obtain ⟨d, hd⟩ : ∃ d, d = 63 - n := ⟨_, rfl⟩
  rw [← hd] at s1 s2
  have u1 : IntKind.i64.wrap (63 - (n : Int)) = (d : Int) := by rw [IntWalk.i64_in _ (by omega)]; omega
  have u0 : IntKind.i64.wrap (((n + 1 : Nat) : Int) - 1) = (n : Int) := by rw [IntWalk.i64_in _ (by omega)]; omega
  have x0 : ((x : Int) == 0) = false := by rw [beq_eq_false_iff_ne]; omega
  have hd64 : d ≤ 63 := by omega
  have u2 : IntKind.u64.wrap ((x : Int) * 2 ^ d) = ((x * 2 ^ d : Nat) : Int) := by rw [show (x : Int) * 2 ^ d = ((x * 2 ^ d : Nat) : Int) by simp, IntWalk.u64_in _ (by omega)]
  obtain ⟨e, he⟩ : ∃ e, e = x * 2 ^ d := ⟨_, rfl⟩
  rw [← he] at s1 s2 u2
  obtain ⟨m0, hm0⟩ : ∃ m0, m0 = mant x := ⟨_, rfl⟩
  rw [← hm0] at s2 HN
  have u3 : (e : Int) / 2 = (m0 : Int) := by omega
  clear hn hd he hm0 s1 s2
  go_enter Try.func63, Try.ntmps63
  go_wp2_with fail
  refine (hb _).mono ?_
  rintro e' w2 ⟨rfl, rfl⟩
  go_wp2_with fail
  go_loop [5, 6, 7, 8, 20] (fun m o _ _ i => ∃ j : Nat, j ≤ 16 ∧ i = .int .i64 (j : Int) ∧ m = .int .u64 ((logS x j).2 : Int) ∧ o = .int .i64 ((logS x j).1 : Int)) (fun _ _ _ _ i => 16 - (intOf i).toNat)
  case atStart => exact ⟨0, by omega, rfl, by rw [HN.out], by rw [HN.out]⟩
  case round =>
    obtain ⟨j, hj, rfl, rfl, rfl⟩ := hrel
    by_cases hlt : j < 16
    · have hman := HM.out j
      have ho := HL.out j hj
      have hnx : Hid (logS x (j + 1) = lstep (logS x j)) := Lib.hid rfl
      obtain ⟨⟨o, m⟩, hom⟩ : ∃ p : Nat × Nat, p = logS x j := ⟨_, rfl⟩
      rw [← hom] at hman ho hnx ⊢
      dsimp only at hman ho
      obtain ⟨q1, q2, q3⟩ := sq_bounds hman
      have hm := mul64_any m m (by have := hman.2; omega) (by have := hman.2; omega)
      obtain ⟨P, hP⟩ : ∃ P, P = m * m := ⟨_, rfl⟩
      rw [← hP] at hm q1 q2 q3
      obtain ⟨h, hh⟩ : ∃ h, h = P / 18446744073709551616 := ⟨_, rfl⟩
      obtain ⟨l, hl⟩ : ∃ l, l = P % 18446744073709551616 := ⟨_, rfl⟩
      rw [← hh, ← hl] at hm
      obtain ⟨q, hq⟩ : ∃ q, q = P / 2 ^ 62 := ⟨_, rfl⟩
      have hq1 : Hid (4611686018427387904 ≤ q ∧ q < 18446744073709551616) := Lib.hid (by rw [hq]; exact ⟨q1, q2⟩)
      have hsum : 4 * h + l / 4611686018427387904 = q := by rw [hh, hl, hq]; omega
      obtain ⟨t, ht⟩ : ∃ t, t = l / 4611686018427387904 := ⟨_, rfl⟩
      rw [← ht] at hsum
      have hq2 := hq1.out.2
      have hll : l < 18446744073709551616 := by rw [hl]; exact Nat.mod_lt _ (by decide)
      have v1 : IntKind.u64.wrap ((h : Int) * 4) = ((4 * h : Nat) : Int) := by rw [IntWalk.u64_in _ (by omega)]; omega
      have v2 : (l : Int) / 4611686018427387904 = (t : Int) := by omega
      have v3 : bits .or .u64 ((4 * h : Nat) : Int) (t : Int) = (q : Int) := by
        rw [or_u64 (4 * h) t (by omega) (by omega), show 4 * h ||| t = 4 * h + t from (Nat.two_pow_add_eq_or_of_lt (i := 2) (by omega) h).symm, hsum]
      have hP' := Lib.hid hP
      have hQ' := Lib.hid hq
      clear hom hP hq hman hh hl ht q1 q2 q3 hsum hll hq2
      have i1 : (j : Int) < 16 := by omega
      have v4 : IntKind.i64.wrap ((o : Int) * 2) = ((2 * o : Nat) : Int) := by rw [IntWalk.i64_in _ (by omega)]; omega
      have v5 : bits .or .i64 ((2 * o : Nat) : Int) 1 = ((2 * o + 1 : Nat) : Int) := or_i64 o (by omega)
      obtain ⟨o2, ho2⟩ : ∃ o2, o2 = 2 * o := ⟨_, rfl⟩
      obtain ⟨h4, hh4⟩ : ∃ h4, h4 = 4 * h := ⟨_, rfl⟩
      rw [← hh4] at v1 v3
      rw [← ho2] at v4 v5
      obtain ⟨qh, hqh⟩ : ∃ qh, qh = q / 2 := ⟨_, rfl⟩
      have v6 : (q : Int) / 2 = (qh : Int) := by omega
      have HS : Hid (lstep (o, m) = if 2 ^ 63 ≤ q then (o2 + 1, qh) else (o2, q)) := Lib.hid (by
        unfold lstep
        dsimp only
        rw [← hP'.out, ← hQ'.out, ho2, hqh])
      by_cases hq63 : 9223372036854775808 ≤ q
      · have dq : decide ((9223372036854775808 : Int) ≤ (q : Int)) = true := decide_eq_true (by omega)
        have HS2 : Hid (logS x (j + 1) = (o2 + 1, qh)) := Lib.hid (by rw [hnx.out, HS.out, if_pos (by omega)])
        clear hqh ho2 hh4 HS hnx hq1 hP' hQ' ho hq63
        go_wp2_with fail
        refine (hm _).mono ?_
        rintro e' w3 ⟨rfl, rfl⟩
        go_wp2_with fail
        go_round
        case rel => exact ⟨j + 1, by omega, by go_num, by rw [HS2.out], by rw [HS2.out]; simp⟩
        case measure => simp [intOf]; omega
      · have dq : decide ((9223372036854775808 : Int) ≤ (q : Int)) = false := decide_eq_false (by omega)
        have HS2 : Hid (logS x (j + 1) = (o2, q)) := Lib.hid (by rw [hnx.out, HS.out, if_neg (by omega)])
        clear hqh ho2 hh4 HS hnx hq1 hP' hQ' ho hq63
        go_wp2_with fail
        refine (hm _).mono ?_
        rintro e' w3 ⟨rfl, rfl⟩
        go_wp2_with fail
        go_round
        case rel => exact ⟨j + 1, by omega, by go_num, by rw [HS2.out], by rw [HS2.out]⟩
        case measure => simp [intOf]; omega
    · obtain rfl : j = 16 := by omega
      go_wp2_with fail
      go_ret2
      exact ⟨rfl, rfl⟩
theorem info_bad (r s : Int) (h : r < 0 ∨ 1048576 < r ∨ s < 1 ∨ 1048576 < s) (w : World) :
    Calls Try.prog 39 #[.int .i64 r, .int .i64 s] w fun e w' => e = .returned (.tuple #[.int .i64 0, .int .i64 2]) ∧ w = w' := by
  by_cases h1 : r < 0
  · have d1 : decide (r < 0) = true := decide_eq_true h1
    go_enter Try.func39, Try.ntmps39
    go_wp2_with fail
    go_ret2
    exact ⟨rfl, rfl⟩
  · have d1 : decide (r < 0) = false := decide_eq_false h1
    by_cases h2 : 1048576 < r
    · have d2 : decide (1048576 < r) = true := decide_eq_true h2
      go_enter Try.func39, Try.ntmps39
      go_wp2_with fail
      go_ret2
      exact ⟨rfl, rfl⟩
    · have d2 : decide (1048576 < r) = false := decide_eq_false h2
      by_cases h3 : s < 1
      · have d3 : decide (s < 1) = true := decide_eq_true h3
        go_enter Try.func39, Try.ntmps39
        go_wp2_with fail
        go_ret2
        exact ⟨rfl, rfl⟩
      · have d3 : decide (s < 1) = false := decide_eq_false h3
        have d4 : decide (1048576 < s) = true := decide_eq_true (by omega)
        go_enter Try.func39, Try.ntmps39
        go_wp2_with fail
        go_ret2
        exact ⟨rfl, rfl⟩
set_option maxRecDepth 100000 in
set_option maxHeartbeats 1000000 in
theorem info_ok (r s : Nat) (hr : r ≤ 1048576) (hs1 : 1 ≤ s) (hs : s ≤ 1048576) (w : World) :
    Calls Try.prog 39 #[.int .i64 (r : Int), .int .i64 (s : Int)] w fun e w' => e = .returned (.tuple #[.int .i64 (infoN r s : Int), .int .i64 0]) ∧ Below w.heap.size w w' := by
  have hpl := part_le hr hs1
  obtain ⟨l1, l2⟩ := info_log hr hs1
  obtain ⟨p, hp⟩ : ∃ p, partN r s = p := ⟨_, rfl⟩
  obtain ⟨rr, hrr⟩ : ∃ rr, r * r = rr := ⟨_, rfl⟩
  obtain ⟨ss, hss⟩ : ∃ ss, s * s = ss := ⟨_, rfl⟩
  have b1 : rr ≤ 1048576 * 1048576 := by rw [← hrr]; exact Nat.mul_le_mul hr hr
  have b2 : ss ≤ 1048576 * 1048576 := by rw [← hss]; exact Nat.mul_le_mul hs hs
  have b3 : 1 ≤ ss := by rw [← hss]; exact Nat.mul_le_mul hs1 hs1
  have m1 := muldiv_any rr 65536 ss (rr * 65536) p (by omega) (by decide) b3 (by omega) rfl (by omega) (by rw [← hp, ← hrr, ← hss]; rfl) (by omega)
  have m2 := log_any (p + 65536) (by omega) (by omega)
  have hin : Hid (infoN r s = (logL (p + 65536) - 1048576) / 2) := Lib.hid (by unfold infoN; rw [hp])
  rw [hp] at l1 l2 hpl
  obtain ⟨lg, hlg⟩ : ∃ lg, lg = logL (p + 65536) := ⟨_, rfl⟩
  rw [← hlg] at m2 l1 l2 hin
  obtain ⟨d, hd⟩ : ∃ d, d = lg - 1048576 := ⟨_, rfl⟩
  rw [← hd] at hin
  have e1 : IntKind.i64.wrap ((lg : Int) - 1048576) = (d : Int) := by rw [IntWalk.i64_in _ (by omega)]; omega
  have e2 : (d : Int) / 2 = ((d / 2 : Nat) : Int) := by omega
  have e3 : (d : Int).tdiv 2 = ((d / 2 : Nat) : Int) := by rw [Int.tdiv_eq_ediv_of_nonneg (by omega)]; exact e2
  rw [← hin.out] at e2 e3
  obtain ⟨f, hf⟩ : ∃ f, f = infoN r s := ⟨_, rfl⟩
  rw [← hf] at e2 e3 hin ⊢
  have hfl := hin.out
  have e4 : IntKind.i64.wrap (f : Int) = (f : Int) := IntWalk.i64_in _ (by omega)
  have e5 : IntKind.i64.wrap ((r : Int) * (r : Int)) = (rr : Int) := by rw [← hrr, IntWalk.i64_in _ (by rw [← Int.natCast_mul, hrr]; omega)]; exact (Int.natCast_mul r r).symm
  have e6 : IntKind.i64.wrap ((s : Int) * (s : Int)) = (ss : Int) := by rw [← hss, IntWalk.i64_in _ (by rw [← Int.natCast_mul, hss]; omega)]; exact (Int.natCast_mul s s).symm
  have e7 : IntKind.u64.wrap (p : Int) = (p : Int) := IntWalk.u64_in _ (by omega)
  have e8 : IntKind.u64.wrap ((p : Int) + 65536) = ((p + 65536 : Nat) : Int) := by rw [IntWalk.u64_in _ (by omega)]; omega
  have d1 : decide ((r : Int) < 0) = false := decide_eq_false (by omega)
  have d2 : decide ((1048576 : Int) < (r : Int)) = false := decide_eq_false (by omega)
  have d3 : decide ((s : Int) < 1) = false := decide_eq_false (by omega)
  have d4 : decide ((1048576 : Int) < (s : Int)) = false := decide_eq_false (by omega)
  clear hp hrr hss hlg hd hf hfl hin hr hs hs1 b1 b2 b3 hpl l1 l2
  go_enter Try.func39, Try.ntmps39
  go_wp2_with fail
  refine (m1 _).mono ?_
  rintro e w2 ⟨rfl, hb2⟩
  have HB2 := Lib.hid hb2
  clear hb2
  go_wp2_with fail
  refine (m2 _).mono ?_
  rintro e w3 ⟨rfl, rfl⟩
  go_wp2_with fail
  go_ret2
  exact ⟨rfl, HB2.out⟩
end Sur
end Go.Proofs.Ytmiplljcnchjkaa
