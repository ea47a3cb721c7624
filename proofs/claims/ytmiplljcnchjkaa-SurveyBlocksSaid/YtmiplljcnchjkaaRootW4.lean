/-
  The walks of package root and of its reference: roots of any degree.
-/
import Derived.Test.YtmiplljcnchjkaaRootW3
import Derived.WalkMore
import Derived.Deep.LoopGhost
import Derived.Outline
namespace Go.Proofs.Ytmiplljcnchjkaa
open Go.RowKit
set_option linter.unusedVariables false
namespace Root

set_option maxRecDepth 100000 in
set_option maxHeartbeats 1000000 in
theorem rfits_any (m d x : Nat) (hm : m < 18446744073709551616) (hx : x < 18446744073709551616) (hd : 1 ≤ d) (hd2 : d ≤ 9223372036854775807) (w : World) :
    Calls Try.prog 58 #[.int .u64 (m : Int), .int .i64 (d : Int), .int .u64 (x : Int)] w fun e w' => e = .returned (.bool (decide (m ^ d ≤ x))) ∧ w = w' := by
  by_cases h2 : m < 2
  · have e : decide (m ^ d ≤ x) = decide (m ≤ x) := decide_eq_decide.2 (pow_tiny h2 hd)
    rw [e]
    clear e hm hx hd hd2
    have h2i : (m : Int) < 2 := by omega
    go_enter Try.func58, Try.ntmps58
    go_wp2
    go_step3
    go_wp2
    rw [Exit.noGoto_ret]
    go_ret
    exact ⟨rfl, rfl⟩
  · have h2i : ¬ (m : Int) < 2 := by omega
    obtain ⟨b, hb⟩ : ∃ b, b = decide (m ^ d ≤ x) := ⟨_, rfl⟩
    rw [← hb]
    have Hb := Lib.hid hb
    have Hm := Lib.hid hm
    have Hx := Lib.hid hx
    have H2 := Lib.hid (show 2 ≤ m by omega)
    clear hb hm hx h2
    go_enter Try.func58, Try.ntmps58
    go_wp2
    go_step3
    go_wp2
    go_step3
    go_wp2
    go_loop [7, 8, 9, 10] (fun p i _ _ => ∃ j q : Nat, j < d ∧ i = .int .i64 (j : Int) ∧ p = .int .u64 (q : Int) ∧ q = m ^ j ∧ (j = 0 ∨ q ≤ x) ∧ j < 64 ∧ q < 18446744073709551616) (fun _ i _ _ => 64 - (intOf i).toNat)
    case atStart => exact ⟨0, 1, by omega, rfl, rfl, by simp, .inl rfl, by omega, by omega⟩
    case round =>
      obtain ⟨j, q, hj, rfl, rfl, hq, hqx, hj64, hql⟩ := hrel
      have hno := fun h => pow_up (d := d) (x := x) H2.out hj h
      have hyes : q * m ≤ x → j + 1 < 64 := fun h => pow_small (m := m) (x := x) H2.out (by rw [Nat.pow_succ, ← hq]; exact h) Hx.out
      have hnext : q * m = m ^ (j + 1) := by rw [Nat.pow_succ, ← hq]
      rw [← hq] at hno
      have Hno := Lib.hid hno
      have Hyes := Lib.hid hyes
      have Hnext := Lib.hid hnext
      have Hql := Lib.hid hql
      clear hno hyes hnext hq hqx hql
      have u1 : IntKind.i64.wrap ((d : Int) - 1) = (d : Int) - 1 := IntWalk.i64_in _ (by omega)
      have i1 : (j : Int) < (d : Int) := by omega
      go_wp2_with fail
      refine (mul64_any q m Hql.out Hm.out w).mono ?_
      rintro e w' ⟨rfl, rfl⟩
      obtain ⟨P, hP⟩ : ∃ P, P = q * m := ⟨_, rfl⟩
      have HP := Lib.hid hP
      rw [← hP]
      obtain ⟨h, hh⟩ : ∃ h, h = P / 18446744073709551616 := ⟨_, rfl⟩
      obtain ⟨l, hl⟩ : ∃ l, l = P % 18446744073709551616 := ⟨_, rfl⟩
      rw [← hh, ← hl]
      have hx := Hx.out
      by_cases hbig : x < P
      · have hf : b = false := by
          rw [Hb.out]
          exact decide_eq_false (Hno.out (by rw [← HP.out]; exact hbig))
        have Hf := Lib.hid hf
        by_cases h0 : 0 < h
        · have h0i : (0 : Int) < (h : Int) := by omega
          clear hP hh hl hx hbig hf Hno Hyes Hnext
          go_wp2
          rw [Exit.noGoto_ret]
          go_ret
          exact ⟨by rw [Hf.out]; rfl, rfl⟩
        · have h0i : ¬ (0 : Int) < (h : Int) := by omega
          have hli : (x : Int) < (l : Int) := by omega
          have hhz : h = 0 := by omega
          clear hP hh hl hx hbig hf Hno Hyes Hnext
          subst hhz
          go_wp2
          rw [Exit.noGoto_ret]
          go_ret
          exact ⟨by rw [Hf.out]; rfl, rfl⟩
      · have h0 : h = 0 := by omega
        have hlP : l = P := by omega
        have hli : ¬ (x : Int) < (l : Int) := by omega
        have hj1 := Hyes.out (by rw [← HP.out]; omega)
        have Hn : Hid (l = m ^ (j + 1)) := Lib.hid (by rw [hlP, HP.out, Hnext.out])
        have Hl : Hid (l ≤ x) := Lib.hid (by omega)
        have Hl2 : Hid (l < 18446744073709551616) := Lib.hid (by omega)
        clear hP hh hl hx hbig hlP Hno Hyes Hnext
        subst h0
        by_cases hlast : j + 1 = d
        · have hb : b = true := by
            rw [Hb.out]
            exact decide_eq_true (by rw [← hlast, ← Hn.out]; exact Hl.out)
          have Hbt := Lib.hid hb
          have hji : ((j : Int) == (d : Int) - 1) = true := by rw [beq_iff_eq]; omega
          clear hb
          go_wp2
          rw [Exit.noGoto_ret]
          go_ret
          exact ⟨by rw [Hbt.out]; rfl, rfl⟩
        · have hji : ((j : Int) == (d : Int) - 1) = false := by rw [beq_eq_false_iff_ne]; omega
          have hjn : ¬ (j : Int) = (d : Int) - 1 := by omega
          go_wp2
          go_round
          case rel => exact ⟨j + 1, l, by omega, by go_num, rfl, Hn.out, .inr Hl.out, hj1, Hl2.out⟩
          case measure => first | (simp [intOf]; done) | (simp [intOf]; omega)
set_option maxRecDepth 100000 in
set_option maxHeartbeats 1000000 in
theorem rpower_any (x d : Nat) (hx : x < 18446744073709551616) (hd : 1 ≤ d) (hd2 : d ≤ 9223372036854775807) (w : World) :
    Calls Try.prog 30 #[.int .u64 (x : Int), .int .i64 (d : Int)] w fun e w' => ∃ r : Nat, e = .returned (.int .u64 (r : Int)) ∧ IsPow x d r ∧ r ≤ x ∧ w = w' := by
  have Hx := Lib.hid hx
  have Hd := Lib.hid hd
  have Hd2 := Lib.hid hd2
  have hst : 0 ^ d ≤ x ∧ x < (x + 1) ^ d := ⟨by rw [Nat.zero_pow hd]; exact Nat.zero_le _, Nat.lt_of_lt_of_le (Nat.lt_succ_self x) (self_pow hd)⟩
  have Hst := Lib.hid hst
  have d1 : ¬ (d : Int) < 1 := by omega
  clear hx hd hd2 hst
  go_enter Try.func30, Try.ntmps30
  go_wp2
  go_loop [5, 6, 7] (fun l h _ => ∃ lo hi : Nat, l = .int .u64 (lo : Int) ∧ h = .int .u64 (hi : Int) ∧ lo ≤ hi ∧ hi ≤ x ∧ lo ^ d ≤ x ∧ x < (hi + 1) ^ d) (fun l h _ => (intOf h - intOf l).toNat)
  case atStart => exact ⟨0, x, rfl, rfl, by omega, Nat.le_refl _, Hst.out.1, Hst.out.2⟩
  case round =>
    obtain ⟨lo, hi, rfl, rfl, hle, hhx, h1, h2⟩ := hrel
    have H1 := Lib.hid h1
    have H2 := Lib.hid h2
    have Hhx := Lib.hid hhx
    have hx := Hx.out
    clear h1 h2
    by_cases hlt : lo < hi
    · have hlti : (lo : Int) < (hi : Int) := by omega
      obtain ⟨s, hs⟩ : ∃ s, s = hi - lo := ⟨_, rfl⟩
      have u0 : IntKind.u64.wrap ((hi : Int) - (lo : Int)) = (s : Int) := by rw [IntWalk.u64_in _ (by omega)]; omega
      obtain ⟨t, ht⟩ : ∃ t, t = s / 2 := ⟨_, rfl⟩
      have e1 : (s : Int) / 2 = (t : Int) := by omega
      have e2 : (s : Int).tdiv 2 = (t : Int) := by rw [Int.tdiv_eq_ediv_of_nonneg (Int.natCast_nonneg _)]; exact e1
      have u1 : IntKind.u64.wrap (t : Int) = (t : Int) := IntWalk.u64_in _ (by omega)
      obtain ⟨m, hm⟩ : ∃ m, m = hi - t := ⟨_, rfl⟩
      have u2 : IntKind.u64.wrap ((hi : Int) - (t : Int)) = (m : Int) := by rw [IntWalk.u64_in _ (by omega)]; omega
      have hm1 : lo < m := by omega
      have hm2 : m ≤ hi := by omega
      have u3 : IntKind.u64.wrap ((m : Int) - 1) = ((m - 1 : Nat) : Int) := by rw [IntWalk.u64_in _ (by omega)]; omega
      have hml : m < 18446744073709551616 := by omega
      have Hml := Lib.hid hml
      clear hs ht hm hml hx hhx
      go_wp2_with fail
      refine (rfits_any m d x Hml.out Hx.out Hd.out Hd2.out w).mono ?_
      rintro e w' ⟨rfl, rfl⟩
      by_cases hc : m ^ d ≤ x
      · rw [decide_eq_true hc]
        have HC := Lib.hid hc
        clear hc
        go_wp2
        go_round
        case rel => exact ⟨m, hi, rfl, rfl, hm2, Hhx.out, HC.out, H2.out⟩
        case measure => first | (simp [intOf]; done) | (simp [intOf]; omega)
      · rw [decide_eq_false hc]
        have HC := Lib.hid hc
        clear hc
        go_wp2
        go_round
        case rel => exact ⟨lo, m - 1, rfl, rfl, by omega, by have := Hhx.out; omega, H1.out, by rw [Nat.sub_add_cancel (by omega)]; exact Nat.lt_of_not_le HC.out⟩
        case measure => first | (simp [intOf]; done) | (simp [intOf]; omega)
    · obtain rfl : lo = hi := by omega
      go_wp2
      go_ret
      exact ⟨lo, rfl, ⟨H1.out, H2.out⟩, Hhx.out, rfl⟩
theorem rpower_no (x : Nat) (d : Int) (hd : d < 1) (w : World) :
    Calls Try.prog 30 #[.int .u64 (x : Int), .int .i64 d] w fun e w' => e = .returned (.int .u64 0) ∧ w = w' := by
  go_enter Try.func30, Try.ntmps30
  go_wp2
  go_ret
  exact ⟨rfl, rfl⟩
set_option maxRecDepth 100000 in
set_option maxHeartbeats 1000000 in
theorem hpower_any (m d x : Nat) (hm : m < 18446744073709551616) (hx : x < 18446744073709551616) (hd : 1 ≤ d) (hd2 : d ≤ 9223372036854775807) (w : World) :
    Calls Try.prog 57 #[.int .u64 (m : Int), .int .i64 (d : Int), .int .u64 (x : Int)] w fun e w' => e = .returned (.bool (decide (m ^ d ≤ x))) ∧ w = w' := by
  by_cases h2 : m < 2
  · have e : decide (m ^ d ≤ x) = decide (m ≤ x) := decide_eq_decide.2 (pow_tiny h2 hd)
    rw [e]
    clear e hm hx hd hd2
    have h2i : (m : Int) < 2 := by omega
    go_enter Try.func57, Try.ntmps57
    go_wp2
    go_ret
    exact ⟨rfl, rfl⟩
  · have h2i : ¬ (m : Int) < 2 := by omega
    obtain ⟨b, hb⟩ : ∃ b, b = decide (m ^ d ≤ x) := ⟨_, rfl⟩
    rw [← hb]
    have Hb := Lib.hid hb
    have Hm := Lib.hid hm
    have Hx := Lib.hid hx
    have H2 := Lib.hid (show 2 ≤ m by omega)
    have hmz : ((m : Int) == 0) = false := by rw [beq_eq_false_iff_ne]; omega
    have hmp : (0 : Int) < (m : Int) := by omega
    obtain ⟨xm, hxm⟩ : ∃ xm, xm = x / m := ⟨_, rfl⟩
    have e1 : (x : Int) / (m : Int) = (xm : Int) := by rw [hxm]; exact (Int.natCast_ediv x m).symm
    have e2 : (x : Int).tdiv (m : Int) = (xm : Int) := by rw [Int.tdiv_eq_ediv_of_nonneg (Int.natCast_nonneg _)]; exact e1
    have hxl : xm ≤ x := by rw [hxm]; exact Nat.div_le_self _ _
    have u1 : IntKind.u64.wrap (xm : Int) = (xm : Int) := IntWalk.u64_in _ (by omega)
    have Hdiv : Hid (∀ q, q ≤ xm ↔ q * m ≤ x) := Lib.hid (fun q => by rw [hxm]; exact Nat.le_div_iff_mul_le (by omega))
    clear hb hm hx h2 hxm hxl
    go_enter Try.func57, Try.ntmps57
    go_wp2
    go_loop [7, 8] (fun p i => ∃ j q : Nat, j ≤ d ∧ j ≤ 64 ∧ i = .int .i64 (j : Int) ∧ p = .int .u64 (q : Int) ∧ q = m ^ j ∧ (j = 0 ∨ q ≤ x)) (fun _ i => 64 - (intOf i).toNat)
    case atStart => exact ⟨0, 1, by omega, by omega, rfl, rfl, by simp, .inl rfl⟩
    case round =>
      obtain ⟨j, q, hjd, hj64, rfl, rfl, hq, hqx⟩ := hrel
      have hno := fun h h' => pow_up (d := d) (x := x) H2.out (i := j) h h'
      have hsm : j = 0 ∨ j < 64 := hqx.imp id fun h => pow_small (m := m) (x := x) H2.out (by rw [← hq]; exact h) Hx.out
      have hnext : q * m = m ^ (j + 1) := by rw [Nat.pow_succ, ← hq]
      rw [← hq] at hno
      have Hno := Lib.hid hno
      have Hnext := Lib.hid hnext
      have Hq := Lib.hid hq
      have Hqx := Lib.hid hqx
      clear hno hnext hq hqx
      by_cases hjd2 : j < d
      · have i1 : (j : Int) < (d : Int) := by omega
        have i2 : (j : Int) < 64 := by omega
        by_cases hc : xm < q
        · have hci : (xm : Int) < (q : Int) := by omega
          have hf : b = false := by
            rw [Hb.out]
            refine decide_eq_false (Hno.out hjd2 ?_)
            have := mt (Hdiv.out q).2 (by omega)
            omega
          have Hf := Lib.hid hf
          clear hf Hno Hnext
          go_wp2
          go_ret
          exact ⟨by rw [Hf.out]; rfl, rfl⟩
        · have hci : ¬ (xm : Int) < (q : Int) := by omega
          have hle := (Hdiv.out q).1 (by omega)
          obtain ⟨P, hP⟩ : ∃ P, P = q * m := ⟨_, rfl⟩
          have hpi : (q : Int) * (m : Int) = (P : Int) := by rw [hP, Int.natCast_mul]
          rw [← hP] at hle
          have hx := Hx.out
          have u2 : IntKind.u64.wrap ((q : Int) * (m : Int)) = (P : Int) := by rw [hpi]; exact IntWalk.u64_in _ (by omega)
          have Hn : Hid (P = m ^ (j + 1)) := Lib.hid (by rw [hP, Hnext.out])
          have Hle := Lib.hid hle
          clear hP hpi hle hx Hno Hnext
          go_wp2
          go_round
          case rel => exact ⟨j + 1, P, by omega, by omega, by go_num, rfl, Hn.out, .inr Hle.out⟩
          case measure => first | (simp [intOf]; done) | (simp [intOf]; omega)
      · obtain rfl : j = d := by omega
        have hb : b = true := by
          rw [Hb.out]
          refine decide_eq_true ?_
          rw [← Hq.out]
          rcases Hqx.out with h | h
          · omega
          · exact h
        have Hbt := Lib.hid hb
        have i3 : (j : Int) ≤ 64 := by omega
        have i4 : decide ((j : Int) ≤ 64) = true := decide_eq_true i3
        clear hb
        go_wp2
        go_ret
        exact ⟨by rw [Hbt.out]; rfl, rfl⟩
set_option maxHeartbeats 1000000 in
theorem hispower_any (r x d : Nat) (hx : x < 18446744073709551616) (hr : r ≤ x) (hd : 1 ≤ d) (hd2 : d ≤ 9223372036854775807) (hp : IsPow x d r) (w : World) :
    Calls Try.prog 29 #[.int .u64 (r : Int), .int .u64 (x : Int), .int .i64 (d : Int)] w fun e w' => e = .returned (.bool true) ∧ w = w' := by
  have Hp := Lib.hid hp
  have Hx := Lib.hid hx
  have Hr := Lib.hid hr
  have Hd := Lib.hid hd
  have Hd2 := Lib.hid hd2
  have d1 : ¬ (d : Int) < 1 := by omega
  by_cases h0 : x = 0
  · subst h0
    obtain rfl : r = 0 := by omega
    clear hp hx hr hd hd2
    go_enter Try.func29, Try.ntmps29
    go_wp2
    go_ret
    exact ⟨rfl, rfl⟩
  · have hz : ((x : Int) == 0) = false := by rw [beq_eq_false_iff_ne]; omega
    by_cases hm : r = 18446744073709551615
    · have hme : ((r : Int) == 18446744073709551615) = true := by rw [beq_iff_eq]; omega
      have Hrl := Lib.hid (show r < 18446744073709551616 by omega)
      clear hp hx hr hd hd2 hm
      go_enter Try.func29, Try.ntmps29
      go_wp2_with fail
      refine (hpower_any r d x Hrl.out Hx.out Hd.out Hd2.out w).mono ?_
      rw [decide_eq_true Hp.out.1]
      rintro e w' ⟨rfl, rfl⟩
      go_wp2
      go_ret
      exact ⟨rfl, rfl⟩
    · have hme : ((r : Int) == 18446744073709551615) = false := by rw [beq_eq_false_iff_ne]; omega
      have hmr : ¬ (r : Int) = 18446744073709551615 := by omega
      have u1 : IntKind.u64.wrap ((r : Int) + 1) = ((r + 1 : Nat) : Int) := by rw [IntWalk.u64_in _ (by omega)]; omega
      have Hm := Lib.hid hm
      clear hp hx hr hd hd2 hm
      go_enter Try.func29, Try.ntmps29
      go_wp2_with fail
      refine (hpower_any r d x (by have := Hr.out; have := Hx.out; omega) Hx.out Hd.out Hd2.out w).mono ?_
      rw [decide_eq_true Hp.out.1]
      rintro e w' ⟨rfl, rfl⟩
      go_wp2_with fail
      refine (hpower_any (r + 1) d x (by have := Hr.out; have := Hx.out; have := Hm.out; omega) Hx.out Hd.out Hd2.out w).mono ?_
      rw [decide_eq_false (Nat.not_le_of_lt Hp.out.2)]
      rintro e w' ⟨rfl, rfl⟩
      go_wp2
      go_ret
      exact ⟨rfl, rfl⟩
theorem hispower_no (x : Nat) (d : Int) (hd : d < 1) (w : World) :
    Calls Try.prog 29 #[.int .u64 0, .int .u64 (x : Int), .int .i64 d] w fun e w' => e = .returned (.bool true) ∧ w = w' := by
  go_enter Try.func29, Try.ntmps29
  go_wp2
  go_ret
  exact ⟨rfl, rfl⟩
end Root
end Go.Proofs.Ytmiplljcnchjkaa
