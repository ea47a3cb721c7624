/-
  The law SurveyInfo, walked.
-/
import Derived.Test.YtmiplljcnchjkaaSurG
namespace Go.Proofs.Ytmiplljcnchjkaa
open Go.RowKit
set_option linter.unusedVariables false
namespace Sur
theorem infoC_more {r s : Int} {m : Nat} (h : (infoC r s).2 = 0) (h2 : (infoC (r + (m : Int)) s).2 = 0) : (infoC r s).1 ≤ (infoC (r + (m : Int)) s).1 := by
  by_cases h3 : r < 0 ∨ 1048576 < r ∨ s < 1 ∨ 1048576 < s
  · rw [infoC_bad h3] at h; cases h
  · by_cases h4 : r + (m : Int) < 0 ∨ 1048576 < r + (m : Int) ∨ s < 1 ∨ 1048576 < s
    · rw [infoC_bad h4] at h2; cases h2
    · rw [infoC_ok h3, infoC_ok h4]
      show ((infoN r.toNat s.toNat : Nat) : Int) ≤ ((infoN (r + (m : Int)).toNat s.toNat : Nat) : Int)
      have := info_mono (r := r.toNat) (r' := (r + (m : Int)).toNat) (s := s.toNat) (s' := s.toNat) (by omega) (Nat.le_refl _) (by omega)
      omega
theorem infoC_less {r s : Int} {m : Nat} (h : (infoC r s).2 = 0) (h2 : (infoC r (s + (m : Int))).2 = 0) : (infoC r (s + (m : Int))).1 ≤ (infoC r s).1 := by
  by_cases h3 : r < 0 ∨ 1048576 < r ∨ s < 1 ∨ 1048576 < s
  · rw [infoC_bad h3] at h; cases h
  · by_cases h4 : r < 0 ∨ 1048576 < r ∨ s + (m : Int) < 1 ∨ 1048576 < s + (m : Int)
    · rw [infoC_bad h4] at h2; cases h2
    · rw [infoC_ok h3, infoC_ok h4]
      show ((infoN r.toNat (s + (m : Int)).toNat : Nat) : Int) ≤ ((infoN r.toNat s.toNat : Nat) : Int)
      have := info_mono (r := r.toNat) (r' := r.toNat) (s := (s + (m : Int)).toNat) (s' := s.toNat) (Nat.le_refl _) (by omega) (by omega)
      omega
theorem infoC_in {r s : Int} (h : (infoC r s).2 = 0) : 0 ≤ r ∧ r ≤ 1048576 ∧ 1 ≤ s ∧ s ≤ 1048576 := by
  by_cases h3 : r < 0 ∨ 1048576 < r ∨ s < 1 ∨ 1048576 < s
  · rw [infoC_bad h3] at h; cases h
  · omega
set_option maxRecDepth 100000 in
set_option maxHeartbeats 1000000 in
theorem lawInfo_core (r s : Int) (m : Nat) (hm : m < 65536) (w : World) :
    Calls Try.prog 9 #[.int .i64 r, .int .u16 (m : Int), .int .i64 s] w fun e w' => e = .returned (.bool true) ∧ Below w.heap.size w w' := by
  have i1 := fun w => info_any r s w
  have i2 := fun w => infoR_any r s w
  have i3 := fun w => info_any (r + (m : Int)) s w
  have i4 := fun w => info_any r (s + (m : Int)) w
  have hmore := infoC_more (r := r) (s := s) (m := m)
  have hless := infoC_less (r := r) (s := s) (m := m)
  have hin := infoC_in (r := r) (s := s)
  have t1 := infoC_two r s
  have t2 := infoC_two (r + (m : Int)) s
  have t3 := infoC_two r (s + (m : Int))
  unfold GotN at i1 i2 i3 i4
  generalize infoC r s = p at *
  generalize infoC (r + (m : Int)) s = p' at *
  generalize infoC r (s + (m : Int)) = p'' at *
  rcases t1 with rfl | ⟨a, ha, rfl⟩
  · clear t2 t3 i3 i4 hmore hless hin
    dsimp only at i1 i2
    go_enter Try.func9, Try.ntmps9
    go_wp2_with fail
    refine (i1 _).mono ?_
    rintro e w2 ⟨rfl, hb2⟩
    have HB2 := Lib.hid hb2
    clear hb2
    go_wp2_with fail
    refine (i2 _).mono ?_
    rintro e w3 ⟨rfl, hb3⟩
    have HB3 := Lib.hid (bt HB2.out hb3)
    clear hb3
    go_wp2_with fail
    refine (works38_any _).mono ?_
    rintro e w4 ⟨rfl, hb4⟩
    have HB4 := Lib.hid (bt HB3.out hb4)
    clear hb4
    go_wp2_with fail
    go_ret
    exact ⟨rfl, HB4.out⟩
  · obtain ⟨r0, r1, s0, s1⟩ := hin rfl
    have u1 : IntKind.i64.wrap (m : Int) = (m : Int) := IntWalk.i64_in _ (by omega)
    have u2 : IntKind.i64.wrap (r + (m : Int)) = r + (m : Int) := IntWalk.i64_in _ (by omega)
    have u3 : IntKind.i64.wrap (s + (m : Int)) = s + (m : Int) := IntWalk.i64_in _ (by omega)
    have e1 : ((a : Int) != (a : Int)) = false := by rw [bne_eq_false_iff_eq]
    have e2 : decide ((0 : Int) ≤ (a : Int)) = true := decide_eq_true (by omega)
    dsimp only at i1 i2
    have HI3 := Lib.hid i3
    have HI4 := Lib.hid i4
    have HMO := Lib.hid (hmore rfl)
    have HLE := Lib.hid (hless rfl)
    clear hin hmore hless i3 i4
    go_enter Try.func9, Try.ntmps9
    go_wp2_with fail
    refine (i1 _).mono ?_
    rintro e w2 ⟨rfl, hb2⟩
    have HB2 := Lib.hid hb2
    clear hb2
    go_wp2_with fail
    refine (i2 _).mono ?_
    rintro e w3 ⟨rfl, hb3⟩
    have HB3 := Lib.hid (bt HB2.out hb3)
    clear hb3 i1 i2
    go_wp2_with fail
    refine (HI3.out _).mono ?_
    rintro e w4 ⟨rfl, hb4⟩
    have HB4 := Lib.hid (bt HB3.out hb4)
    clear hb4
    go_wp2_with fail
    refine (HI4.out _).mono ?_
    rintro e w5 ⟨rfl, hb5⟩
    have HB5 := Lib.hid (bt HB4.out hb5)
    clear hb5 HI3 HI4
    rcases t2 with rfl | ⟨c, hc, rfl⟩
    · rcases t3 with rfl | ⟨d, hd, rfl⟩
      · dsimp only
        go_wp2_with fail
        refine (works38_any _).mono ?_
        rintro e w6 ⟨rfl, hb6⟩
        have HB6 := Lib.hid (bt HB5.out hb6)
        clear hb6
        go_wp2_with fail
        go_ret
        exact ⟨rfl, HB6.out⟩
      · have f1 : decide ((d : Int) ≤ (a : Int)) = true := decide_eq_true (HLE.out rfl)
        have f2 : decide (d ≤ a) = true := decide_eq_true (by have := HLE.out rfl; omega)
        dsimp only
        go_wp2_with fail
        refine (works38_any _).mono ?_
        rintro e w6 ⟨rfl, hb6⟩
        have HB6 := Lib.hid (bt HB5.out hb6)
        clear hb6
        go_wp2_with fail
        go_ret
        exact ⟨rfl, HB6.out⟩
    · have g1 : decide ((a : Int) ≤ (c : Int)) = true := decide_eq_true (HMO.out rfl)
      have g2 : decide (a ≤ c) = true := decide_eq_true (by have := HMO.out rfl; omega)
      rcases t3 with rfl | ⟨d, hd, rfl⟩
      · dsimp only
        go_wp2_with fail
        refine (works38_any _).mono ?_
        rintro e w6 ⟨rfl, hb6⟩
        have HB6 := Lib.hid (bt HB5.out hb6)
        clear hb6
        go_wp2_with fail
        go_ret
        exact ⟨rfl, HB6.out⟩
      · have f1 : decide ((d : Int) ≤ (a : Int)) = true := decide_eq_true (HLE.out rfl)
        have f2 : decide (d ≤ a) = true := decide_eq_true (by have := HLE.out rfl; omega)
        dsimp only
        go_wp2_with fail
        refine (works38_any _).mono ?_
        rintro e w6 ⟨rfl, hb6⟩
        have HB6 := Lib.hid (bt HB5.out hb6)
        clear hb6
        go_wp2_with fail
        go_ret
        exact ⟨rfl, HB6.out⟩
theorem walkInfo (v0 v1 v2 : Value) (W : World) (h0 : VSat W (.int .i64) false v0) (h1 : VSat W (.int .u16) false v1) (h2 : VSat W (.int .i64) false v2) :
    Calls Try.prog 9 #[v0, v1, v2] W fun e W' => e = .returned (.bool true) ∧ Below W.heap.size W W' := by
  obtain ⟨x, e, hx⟩ := h0
  injection e with e
  subst e
  obtain ⟨y, e, hy⟩ := h1
  injection e with e
  subst e
  obtain ⟨z, e, hz⟩ := h2
  injection e with e
  subst e
  have hyb := bounds_u16 hy
  obtain ⟨m, rfl⟩ : ∃ m : Nat, y = (m : Int) := ⟨y.toNat, by omega⟩
  exact lawInfo_core x z m (by omega) W
end Sur
end Go.Proofs.Ytmiplljcnchjkaa
