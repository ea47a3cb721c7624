/-
  The walks of the laws RootTells, RootPowers, RootGcd.
-/
import Derived.Test.YtmiplljcnchjkaaRootV
namespace Go.Proofs.Ytmiplljcnchjkaa
open Go.RowKit
set_option linter.unusedVariables false
namespace Root

theorem below_same {a w' : World} {q : Nat} (h : Below (a.drewN q).heap.size (a.drewN q) w') : Below a.heap.size a w' := ⟨h.os, h.tape, h.output, h.size, h.block⟩
set_option maxRecDepth 100000 in
set_option maxHeartbeats 2000000 in
theorem lawTells_any (x : Nat) (hx : x < 18446744073709551616) (w : World) :
    Calls Try.prog 3 #[.int .u64 (x : Int)] w fun e w' => e = .returned (.bool true) ∧ Below w.heap.size w w' := by
  have Hx := Lib.hid hx
  go_enter Try.func3, Try.ntmps3
  go_wp2_with fail
  refine (hfloor_any x Hx.out _).mono ?_
  rintro e w1 ⟨r, rfl, hr, rfl⟩
  have hrl := hr.lt hx
  have hle := hr.1
  have Hr := Lib.hid hr
  obtain ⟨sq, hsq⟩ : ∃ sq, sq = r * r := ⟨_, rfl⟩
  have hsi : (r : Int) * (r : Int) = (sq : Int) := by rw [hsq, Int.natCast_mul]
  have Hsq := Lib.hid hsq
  rw [← hsq] at hle
  have u1 : IntKind.u64.wrap ((r : Int) * (r : Int)) = (sq : Int) := by rw [hsi]; exact IntWalk.u64_in _ (by omega)
  have u2 : IntKind.u64.wrap ((r : Int) + 1) = ((r + 1 : Nat) : Int) := by rw [IntWalk.u64_in _ (by omega)]; omega
  obtain ⟨d, hd⟩ : ∃ d, d = x - sq := ⟨_, rfl⟩
  have u3 : IntKind.u64.wrap ((x : Int) - (sq : Int)) = (d : Int) := by rw [IntWalk.u64_in _ (by omega)]; omega
  have Hd := Lib.hid hd
  obtain ⟨s, hs⟩ : ∃ s, s = r + 1 := ⟨_, rfl⟩
  have Hs := Lib.hid hs
  rw [← hs] at u2
  have hcase : (((sq : Int) != (x : Int)) = true ∧ sq ≠ x) ∨ (((sq : Int) != (x : Int)) = false ∧ sq = x) := by
    by_cases h : sq = x
    · right; exact ⟨by rw [h]; simp, h⟩
    · left; exact ⟨by rw [bne_iff_ne]; omega, h⟩
  have hcase2 : (decide ((r : Int) < (d : Int)) = true ∧ r < d) ∨ (decide ((r : Int) < (d : Int)) = false ∧ ¬ r < d) := by
    by_cases h : r < d
    · left; exact ⟨decide_eq_true (by omega), h⟩
    · right; exact ⟨decide_eq_false (by omega), h⟩
  clear hr hsq hd hs hsi hx hle hrl
  rcases hcase with ⟨k1, k2⟩ | ⟨k1, k2⟩
  all_goals
    have K2 := Lib.hid k2
    clear k2
    rcases hcase2 with ⟨m1, m2⟩ | ⟨m1, m2⟩
    all_goals
      have M2 := Lib.hid m2
      clear m2
      go_wp2_with fail
      refine (rfloor_any x Hx.out _).mono ?_
      rintro e w2 ⟨r2, rfl, hr2, rfl⟩
      obtain rfl : r2 = r := hr2.uniq Hr.out
      clear hr2
      go_wp2_with fail
      refine (rceil_any x Hx.out _).mono ?_
      rintro e w2 ⟨r3, hr3, rfl, rfl⟩
      obtain rfl : r3 = r2 := hr3.uniq Hr.out
      clear hr3
      rw [← Hsq.out, ← Hs.out]
      first
        | rw [if_neg K2.out]
        | rw [if_pos K2.out]
      go_wp2_with fail
      refine (rnear_any x Hx.out _).mono ?_
      rintro e w2 ⟨r4, hr4, rfl, rfl⟩
      obtain rfl : r4 = r3 := hr4.uniq Hr.out
      clear hr4
      rw [← Hsq.out, ← Hd.out, ← Hs.out]
      first
        | rw [if_pos M2.out]
        | rw [if_neg M2.out]
      go_wp2_with fail
      refine (rbits_any x Hx.out _).mono ?_
      rintro e w2 ⟨rfl, rfl⟩
      go_wp2_with fail
      refine (hbits_any x Hx.out _).mono ?_
      rintro e w2 ⟨rfl, rfl⟩
      generalize bitLen x = bx at *
      go_wp2_with fail
      refine (works_any _).mono ?_
      rintro e w3 ⟨rfl, hb3⟩
      have Hb3 := Lib.hid hb3
      clear hb3
      go_wp2
      go_ret
      exact ⟨rfl, Hb3.out⟩
set_option maxRecDepth 100000 in
set_option maxHeartbeats 2000000 in
theorem lawPowers_no (x : Nat) (d : Int) (hd : d < 1) (w : World) :
    Calls Try.prog 6 #[.int .u64 (x : Int), .int .i64 d] w fun e w' => e = .returned (.bool true) ∧ Below w.heap.size w w' := by
  have k1 : (d != 2) = true := by rw [bne_iff_ne]; omega
  have k2 : (d != 1) = true := by rw [bne_iff_ne]; omega
  have k3 : ¬ d = 2 := by omega
  have k4 : ¬ d = 1 := by omega
  have Hd := Lib.hid hd
  clear hd
  go_enter Try.func6, Try.ntmps6
  go_wp2_with fail
  refine (rpower_no x d Hd.out _).mono ?_
  rintro e w1 ⟨rfl, rfl⟩
  go_wp2_with fail
  refine (hispower_no x d Hd.out _).mono ?_
  rintro e w1 ⟨rfl, rfl⟩
  go_wp2_with fail
  refine (works_any _).mono ?_
  rintro e w3 ⟨rfl, hb3⟩
  have Hb3 := Lib.hid hb3
  clear hb3
  go_wp2
  go_ret
  exact ⟨rfl, Hb3.out⟩
set_option maxRecDepth 100000 in
set_option maxHeartbeats 2000000 in
theorem lawPowers_any (x d : Nat) (hx : x < 18446744073709551616) (hd : 1 ≤ d) (hd2 : d ≤ 9223372036854775807) (w : World) :
    Calls Try.prog 6 #[.int .u64 (x : Int), .int .i64 (d : Int)] w fun e w' => e = .returned (.bool true) ∧ Below w.heap.size w w' := by
  have Hx := Lib.hid hx
  have Hd := Lib.hid hd
  have Hd2 := Lib.hid hd2
  have hcase : (d = 1) ∨ (d = 2) ∨ (d ≠ 1 ∧ d ≠ 2) := by omega
  clear hx hd hd2
  rcases hcase with rfl | rfl | ⟨n1, n2⟩
  · go_enter Try.func6, Try.ntmps6
    go_wp2_with fail
    refine (rpower_any x 1 Hx.out (by decide) (by decide) _).mono ?_
    rintro e w1 ⟨r, rfl, hr, hrx, rfl⟩
    have Hr := Lib.hid hr
    have Hrx := Lib.hid hrx
    clear hr hrx
    go_wp2_with fail
    refine (hispower_any r x 1 Hx.out Hrx.out (by decide) (by decide) Hr.out _).mono ?_
    rintro e w1 ⟨rfl, rfl⟩
    go_wp2_with fail
    refine (rpower_any x 1 Hx.out (by decide) (by decide) _).mono ?_
    rintro e w1 ⟨r2, rfl, hr2, _, rfl⟩
    obtain rfl : r2 = x := hr2.one
    clear hr2
    go_wp2_with fail
    refine (works_any _).mono ?_
    rintro e w3 ⟨rfl, hb3⟩
    have Hb3 := Lib.hid hb3
    clear hb3
    go_wp2
    go_ret
    exact ⟨rfl, Hb3.out⟩
  · go_enter Try.func6, Try.ntmps6
    go_wp2_with fail
    refine (rpower_any x 2 Hx.out (by decide) (by decide) _).mono ?_
    rintro e w1 ⟨r, rfl, hr, hrx, rfl⟩
    have Hr := Lib.hid hr
    have Hrx := Lib.hid hrx
    clear hr hrx
    go_wp2_with fail
    refine (hispower_any r x 2 Hx.out Hrx.out (by decide) (by decide) Hr.out _).mono ?_
    rintro e w1 ⟨rfl, rfl⟩
    go_wp2_with fail
    refine (rpower_any x 2 Hx.out (by decide) (by decide) _).mono ?_
    rintro e w1 ⟨r2, rfl, hr2, _, rfl⟩
    have Hr2 := Lib.hid hr2
    clear hr2
    go_wp2_with fail
    refine (hfloor_any x Hx.out _).mono ?_
    rintro e w1 ⟨r3, rfl, hr3, rfl⟩
    obtain rfl : r3 = r2 := hr3.uniq (IsPow.two.1 Hr2.out)
    clear hr3
    go_wp2_with fail
    refine (works_any _).mono ?_
    rintro e w3 ⟨rfl, hb3⟩
    have Hb3 := Lib.hid hb3
    clear hb3
    go_wp2
    go_ret
    exact ⟨rfl, Hb3.out⟩
  · have k1 : ((d : Int) != 2) = true := by rw [bne_iff_ne]; omega
    have k2 : ((d : Int) != 1) = true := by rw [bne_iff_ne]; omega
    have k3 : ¬ (d : Int) = 2 := by omega
    have k4 : ¬ (d : Int) = 1 := by omega
    clear n1 n2
    go_enter Try.func6, Try.ntmps6
    go_wp2_with fail
    refine (rpower_any x d Hx.out Hd.out Hd2.out _).mono ?_
    rintro e w1 ⟨r, rfl, hr, hrx, rfl⟩
    have Hr := Lib.hid hr
    have Hrx := Lib.hid hrx
    clear hr hrx
    go_wp2_with fail
    refine (hispower_any r x d Hx.out Hrx.out Hd.out Hd2.out Hr.out _).mono ?_
    rintro e w1 ⟨rfl, rfl⟩
    go_wp2_with fail
    refine (works_any _).mono ?_
    rintro e w3 ⟨rfl, hb3⟩
    have Hb3 := Lib.hid hb3
    clear hb3
    go_wp2
    go_ret
    exact ⟨rfl, Hb3.out⟩
set_option maxRecDepth 100000 in
set_option maxHeartbeats 2000000 in
theorem lawGcd_any (a b g : Nat) (ha : a < 18446744073709551616) (hb : b < 18446744073709551616) (hg : Nat.gcd a b = g) (w : World) :
    Calls Try.prog 7 #[.int .u64 (a : Int), .int .u64 (b : Int)] w fun e w' => e = .returned (.bool true) ∧ Below w.heap.size w w' := by
  have Ha := Lib.hid ha
  have Hb := Lib.hid hb
  have Hg := Lib.hid hg
  have Hg2 : Hid (Nat.gcd b a = g) := Lib.hid (by rw [Nat.gcd_comm]; exact hg)
  by_cases h0 : g = 0
  · subst h0
    obtain ⟨rfl, rfl⟩ : a = 0 ∧ b = 0 := Nat.gcd_eq_zero_iff.1 hg
    clear ha hb hg
    go_enter Try.func7, Try.ntmps7
    go_wp2_with fail
    refine (rgcd_any 0 0 (by decide) (by decide) _).mono ?_
    rw [Hg.out]
    rintro e w1 ⟨rfl, q1, rfl⟩
    go_wp2_with fail
    refine (hgcd_any 0 0 (by decide) (by decide) _).mono ?_
    rw [Hg.out]
    rintro e w1 ⟨rfl, rfl⟩
    go_wp2_with fail
    refine (rgcd_any 0 0 (by decide) (by decide) _).mono ?_
    rw [Hg.out]
    rintro e w1 ⟨rfl, q2, rfl⟩
    go_wp2_with fail
    refine (works_any _).mono ?_
    rintro e w3 ⟨rfl, hb3⟩
    have Hb3 := Lib.hid hb3
    clear hb3
    go_wp2
    go_ret
    exact ⟨rfl, below_same Hb3.out⟩
  · have hpos : 0 < g := by omega
    have hda : g ∣ a := by rw [← hg]; exact Nat.gcd_dvd_left _ _
    have hdb : g ∣ b := by rw [← hg]; exact Nat.gcd_dvd_right _ _
    have e1 : (a : Int) % (g : Int) = 0 := by rw [← Int.natCast_emod, Nat.mod_eq_zero_of_dvd hda]; rfl
    have e2 : (a : Int).tmod (g : Int) = 0 := by rw [Int.tmod_eq_emod_of_nonneg (Int.natCast_nonneg _)]; exact e1
    have e3 : (b : Int) % (g : Int) = 0 := by rw [← Int.natCast_emod, Nat.mod_eq_zero_of_dvd hdb]; rfl
    have e4 : (b : Int).tmod (g : Int) = 0 := by rw [Int.tmod_eq_emod_of_nonneg (Int.natCast_nonneg _)]; exact e3
    have e5 : (a : Int) / (g : Int) = ((a / g : Nat) : Int) := (Int.natCast_ediv a g).symm
    have e6 : (a : Int).tdiv (g : Int) = ((a / g : Nat) : Int) := by rw [Int.tdiv_eq_ediv_of_nonneg (Int.natCast_nonneg _)]; exact e5
    have e7 : (b : Int) / (g : Int) = ((b / g : Nat) : Int) := (Int.natCast_ediv b g).symm
    have e8 : (b : Int).tdiv (g : Int) = ((b / g : Nat) : Int) := by rw [Int.tdiv_eq_ediv_of_nonneg (Int.natCast_nonneg _)]; exact e7
    have h1 : Nat.gcd (a / g) (b / g) = 1 := by
      rw [Nat.gcd_div hda hdb, hg]
      exact Nat.div_self hpos
    have ha2 : a / g ≤ a := Nat.div_le_self _ _
    have hb2 : b / g ≤ b := Nat.div_le_self _ _
    obtain ⟨c, hc⟩ : ∃ c, c = a / g := ⟨_, rfl⟩
    obtain ⟨d, hd⟩ : ∃ d, d = b / g := ⟨_, rfl⟩
    rw [← hc] at e5 e6 ha2
    rw [← hd] at e7 e8 hb2
    rw [← hc, ← hd] at h1
    have H1 := Lib.hid h1
    have Hc := Lib.hid (show c < 18446744073709551616 by omega)
    have Hdl := Lib.hid (show d < 18446744073709551616 by omega)
    have u1 : IntKind.u64.wrap (c : Int) = (c : Int) := IntWalk.u64_in _ (by omega)
    have u2 : IntKind.u64.wrap (d : Int) = (d : Int) := IntWalk.u64_in _ (by omega)
    have z1 : ((g : Int) == 0) = false := by rw [beq_eq_false_iff_ne]; omega
    have z2 : ¬ (g : Int) = 0 := by omega
    have z3 : (0 : Int) < (g : Int) := by omega
    have z4 : (0 : Int) ≤ (g : Int) := by omega
    have z5 : g ≠ 0 := by omega
    clear ha hb hg hc hd h1 ha2 hb2 hda hdb h0 hpos
    go_enter Try.func7, Try.ntmps7
    go_wp2_with fail
    refine (rgcd_any a b Ha.out Hb.out _).mono ?_
    rw [Hg.out]
    rintro e w1 ⟨rfl, q1, rfl⟩
    go_wp2_with fail
    refine (hgcd_any a b Ha.out Hb.out _).mono ?_
    rw [Hg.out]
    rintro e w1 ⟨rfl, rfl⟩
    go_wp2_with fail
    refine (rgcd_any b a Hb.out Ha.out _).mono ?_
    rw [Hg2.out]
    rintro e w1 ⟨rfl, q2, rfl⟩
    go_wp2
    go_region_held3 (fun _ => True) (trivial)
      (first
        | (go_at_call 31; refine (rgcd_any c d Hc.out Hdl.out _).mono ?_; rw [H1.out]; rintro e w1 ⟨rfl, q3, rfl⟩)
        | (go_at_call 18; refine (works_any _).mono ?_; rintro e w1 ⟨rfl, hb3⟩; have Hb3 := Lib.hid hb3; clear hb3))
    go_wp2
    go_ret
    exact ⟨rfl, below_same Hb3.out⟩
theorem walkTells (v0 : Value) (W : World) (h0 : VSat W (.int .u64) false v0) :
    Calls Try.prog 3 #[v0] W fun e W' => e = .returned (.bool true) ∧ Below W.heap.size W W' := by
  obtain ⟨n, e, hw⟩ := h0
  injection e with e
  subst e
  have hb := bounds_u64 hw
  obtain ⟨m, rfl⟩ : ∃ m : Nat, n = (m : Int) := ⟨n.toNat, by omega⟩
  exact lawTells_any m (by omega) W
theorem walkPowers (v0 v1 : Value) (W : World) (h0 : VSat W (.int .u64) false v0) (h1 : VSat W (.int .i64) false v1) :
    Calls Try.prog 6 #[v0, v1] W fun e W' => e = .returned (.bool true) ∧ Below W.heap.size W W' := by
  obtain ⟨n, e, hw⟩ := h0
  injection e with e
  subst e
  have hb := bounds_u64 hw
  obtain ⟨m, rfl⟩ : ∃ m : Nat, n = (m : Int) := ⟨n.toNat, by omega⟩
  obtain ⟨d, e, hwd⟩ := h1
  injection e with e
  subst e
  have hbd := bounds_i64 hwd
  by_cases hd : d < 1
  · exact lawPowers_no m d hd W
  · obtain ⟨k, rfl⟩ : ∃ k : Nat, d = (k : Int) := ⟨d.toNat, by omega⟩
    exact lawPowers_any m k (by omega) (by omega) (by omega) W
theorem walkGcd (v0 v1 : Value) (W : World) (h0 : VSat W (.int .u64) false v0) (h1 : VSat W (.int .u64) false v1) :
    Calls Try.prog 7 #[v0, v1] W fun e W' => e = .returned (.bool true) ∧ Below W.heap.size W W' := by
  obtain ⟨n, e, hw⟩ := h0
  injection e with e
  subst e
  have hb := bounds_u64 hw
  obtain ⟨m, rfl⟩ : ∃ m : Nat, n = (m : Int) := ⟨n.toNat, by omega⟩
  obtain ⟨d, e, hwd⟩ := h1
  injection e with e
  subst e
  have hbd := bounds_u64 hwd
  obtain ⟨k, rfl⟩ : ∃ k : Nat, d = (k : Int) := ⟨d.toNat, by omega⟩
  exact lawGcd_any m k _ (by omega) (by omega) rfl W
end Root
end Go.Proofs.Ytmiplljcnchjkaa
