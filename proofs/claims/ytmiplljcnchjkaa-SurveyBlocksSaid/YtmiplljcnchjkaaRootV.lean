/-
  The walk of the example of package root.
-/
import Derived.Test.YtmiplljcnchjkaaRootW5
namespace Go.Proofs.Ytmiplljcnchjkaa
open Go.RowKit
set_option linter.unusedVariables false
namespace Root

set_option maxRecDepth 100000 in
set_option maxHeartbeats 2000000 in
theorem works_any (w : World) : Calls Try.prog 18 #[] w fun e w' => e = .returned (.bool true) ∧ Below w.heap.size w w' := by
  go_enter Try.func18, Try.ntmps18
  go_wp2_with fail
  refine (rhypot_any 3 (-4) (by decide) (by decide) (by decide) (by decide) 25 rfl _).mono ?_
  rintro e w1 ⟨⟨_, r, rfl, hr⟩ | ⟨hbad, _⟩, hb1⟩
  case inr => exact absurd hbad (by decide)
  obtain rfl : r = 5 := hr.uniq ⟨by decide, by decide⟩
  clear hr
  have Hb1 := Lib.hid hb1
  clear hb1
  go_wp2_with fail
  refine (rhypot_any (-9223372036854775808) (-9223372036854775808) (by decide) (by decide) (by decide) (by decide) 170141183460469231731687303715884105728 rfl _).mono ?_
  rintro e w2 ⟨⟨hbad, _⟩ | ⟨_, rfl⟩, hb2⟩
  case inl => exact absurd hbad (by decide)
  have Hb2 := Lib.hid (_root_.Go.Proofs.Ytmiplljcnchjkaa.bt Hb1.out hb2)
  clear hb2 Hb1
  go_wp2_with fail
  refine (rfloor_any 8 (by decide) _).mono ?_
  rintro e w3 ⟨r, rfl, hr, rfl⟩
  obtain rfl : r = 2 := hr.uniq ⟨by decide, by decide⟩
  clear hr
  go_wp2_with fail
  refine (rceil_any 8 (by decide) _).mono ?_
  rintro e w3 ⟨r, hr, rfl, rfl⟩
  obtain rfl : r = 2 := hr.uniq ⟨by decide, by decide⟩
  clear hr
  go_wp2_with fail
  refine (rnear_any 8 (by decide) _).mono ?_
  rintro e w3 ⟨r, hr, rfl, rfl⟩
  obtain rfl : r = 2 := hr.uniq ⟨by decide, by decide⟩
  clear hr
  go_wp2_with fail
  refine (rnear_any 6 (by decide) _).mono ?_
  rintro e w3 ⟨r, hr, rfl, rfl⟩
  obtain rfl : r = 2 := hr.uniq ⟨by decide, by decide⟩
  clear hr
  go_wp2_with fail
  refine (rfloor_any 18446744073709551615 (by decide) _).mono ?_
  rintro e w3 ⟨r, rfl, hr, rfl⟩
  obtain rfl : r = 4294967295 := hr.uniq ⟨by decide, by decide⟩
  clear hr
  go_wp2_with fail
  refine (rbits_any 255 (by decide) _).mono ?_
  rw [show bitLen 255 = 8 by decide]
  rintro e w3 ⟨rfl, rfl⟩
  go_wp2_with fail
  refine (wsq_aux 4611686018427387904 4611686018427387904 21267647932558653966460912964485513216 1152921504606846976 0 (by decide) (by decide) rfl rfl rfl rfl _).mono ?_
  rintro e w3 ⟨rfl, hb3⟩
  have Hb3 := Lib.hid (_root_.Go.Proofs.Ytmiplljcnchjkaa.bt Hb2.out hb3)
  clear hb3 Hb2
  go_wp2_with fail
  refine (rwide_any 21267647932558653966460912964485513216 1152921504606846976 0 (by decide) rfl rfl _).mono ?_
  rintro e w4 ⟨r, rfl, hr, hb4⟩
  obtain rfl : r = 4611686018427387904 := hr.uniq ⟨by decide, by decide⟩
  have Hb4 := Lib.hid (_root_.Go.Proofs.Ytmiplljcnchjkaa.bt Hb3.out hb4)
  clear hb4 Hb3 hr
  go_wp2_with fail
  refine (rpower_any 1000 3 (by decide) (by decide) (by decide) _).mono ?_
  rintro e w5 ⟨r, rfl, hr, _, rfl⟩
  obtain rfl : r = 10 := hr.uniq ⟨by decide, by decide⟩
  clear hr
  go_wp2_with fail
  refine (rpower_any 999 3 (by decide) (by decide) (by decide) _).mono ?_
  rintro e w5 ⟨r, rfl, hr, _, rfl⟩
  obtain rfl : r = 9 := hr.uniq ⟨by decide, by decide⟩
  clear hr
  go_wp2_with fail
  refine (rpower_no 5 0 (by decide) _).mono ?_
  rintro e w5 ⟨rfl, rfl⟩
  go_wp2_with fail
  refine (rgcd_any 12 18 (by decide) (by decide) _).mono ?_
  rw [show Nat.gcd 12 18 = 6 by decide]
  rintro e w5 ⟨rfl, q, rfl⟩
  go_wp2_with fail
  refine (rgcd_any 0 5 (by decide) (by decide) _).mono ?_
  rw [show Nat.gcd 0 5 = 5 by decide]
  rintro e w5 ⟨rfl, q2, rfl⟩
  go_wp2
  go_ret
  exact ⟨rfl, below_drewN Hb4.out _⟩
end Root
end Go.Proofs.Ytmiplljcnchjkaa
