/-
  The walks of survey: what one square tells; how two places are compared.
-/
import Derived.Test.YtmiplljcnchjkaaSurY
namespace Go.Proofs.Ytmiplljcnchjkaa
open Go.RowKit
set_option linter.unusedVariables false
namespace Sur

def infoC (r s : Int) : Int × Int := if r < 0 ∨ 1048576 < r ∨ s < 1 ∨ 1048576 < s then (0, 2) else (((infoN r.toNat s.toNat : Nat) : Int), 0)
theorem infoC_bad {r s : Int} (h : r < 0 ∨ 1048576 < r ∨ s < 1 ∨ 1048576 < s) : infoC r s = (0, 2) := by unfold infoC; rw [if_pos h]
theorem infoC_ok {r s : Int} (h : ¬ (r < 0 ∨ 1048576 < r ∨ s < 1 ∨ 1048576 < s)) : infoC r s = (((infoN r.toNat s.toNat : Nat) : Int), 0) := by unfold infoC; rw [if_neg h]
theorem infoN_lt {r s : Nat} (hr : r ≤ 1048576) (hs : 1 ≤ s) : infoN r s < 2097152 := by
  have := (info_log hr hs).2
  unfold infoN
  omega
theorem infoC_two (r s : Int) : (infoC r s = (0, 2)) ∨ (∃ n : Nat, n < 2097152 ∧ infoC r s = ((n : Int), 0)) := by
  by_cases h : r < 0 ∨ 1048576 < r ∨ s < 1 ∨ 1048576 < s
  · exact .inl (infoC_bad h)
  · exact .inr ⟨_, infoN_lt (by omega) (by omega), infoC_ok h⟩
def GotN (w : World) (r s : Int) (e : Ending) (w' : World) : Prop := e = .returned (.tuple #[.int .i64 (infoC r s).1, .int .i64 (infoC r s).2]) ∧ Below w.heap.size w w'
theorem info_any (r s : Int) (w : World) : Calls Try.prog 39 #[.int .i64 r, .int .i64 s] w (GotN w r s) := by
  unfold GotN
  by_cases h : r < 0 ∨ 1048576 < r ∨ s < 1 ∨ 1048576 < s
  · rw [infoC_bad h]
    exact (info_bad r s h w).mono fun e w' ⟨he, hw⟩ => ⟨he, by rw [← hw]; exact Below.refl _ _⟩
  · rw [infoC_ok h]
    obtain ⟨a, rfl⟩ : ∃ a : Nat, r = (a : Int) := ⟨r.toNat, by omega⟩
    obtain ⟨b, rfl⟩ : ∃ b : Nat, s = (b : Int) := ⟨s.toNat, by omega⟩
    exact info_ok a b (by omega) (by omega) (by omega) w
theorem infoR_any (r s : Int) (w : World) : Calls Try.prog 40 #[.int .i64 r, .int .i64 s] w (GotN w r s) := by
  unfold GotN
  by_cases h : r < 0 ∨ 1048576 < r ∨ s < 1 ∨ 1048576 < s
  · rw [infoC_bad h]
    exact (infoR_bad r s h w).mono fun e w' ⟨he, hw⟩ => ⟨he, by rw [← hw]; exact Below.refl _ _⟩
  · rw [infoC_ok h]
    obtain ⟨a, rfl⟩ : ∃ a : Nat, r = (a : Int) := ⟨r.toNat, by omega⟩
    obtain ⟨b, rfl⟩ : ∃ b : Nat, s = (b : Int) := ⟨s.toNat, by omega⟩
    exact infoR_ok a b (by omega) (by omega) (by omega) w
theorem quiet_eq {P : Program} {f : FuncId} {args : Array Value} {w : World} {n : Nat} {v : Value} (h : Calls P f args (w.drewN n) fun e w' => e = .returned v ∧ w.drewN n = w') : Calls P f args (w.drewN n) fun e w'' => e = .returned v ∧ ∃ m, w'' = w.drewN m :=
  h.mono fun _ _ ⟨he, hw⟩ => ⟨he, n, hw.symm⟩
def cmpZ (x y : Int) : Int := if x < y then -1 else if y < x then 1 else 0
theorem cmp64_any (x y : Int) (w : World) : Calls Try.prog 68 #[.int .i64 x, .int .i64 y] w fun e w' => e = .returned (.int .i64 (cmpZ x y)) ∧ w = w' := by
  unfold cmpZ
  by_cases h1 : x < y
  · rw [if_pos h1]
    have d1 : decide (x < y) = true := decide_eq_true h1
    go_enter Try.func68, Try.ntmps68
    go_wp2
    go_ret
    exact ⟨rfl, rfl⟩
  · rw [if_neg h1]
    have d1 : decide (x < y) = false := decide_eq_false h1
    by_cases h2 : y < x
    · rw [if_pos h2]
      have d2 : decide (y < x) = true := decide_eq_true h2
      go_enter Try.func68, Try.ntmps68
      go_wp2
      go_ret
      exact ⟨rfl, rfl⟩
    · rw [if_neg h2]
      have d2 : decide (y < x) = false := decide_eq_false h2
      go_enter Try.func68, Try.ntmps68
      go_wp2
      go_ret
      exact ⟨rfl, rfl⟩
theorem cmpI_any (x y : Int) (w : World) : Calls Try.prog 69 #[.int .i64 x, .int .i64 y] w fun e w' => e = .returned (.int .i64 (cmpZ x y)) ∧ w = w' := by
  unfold cmpZ
  by_cases h1 : x < y
  · rw [if_pos h1]
    have d1 : decide (x < y) = true := decide_eq_true h1
    go_enter Try.func69, Try.ntmps69
    go_wp2
    go_ret
    exact ⟨rfl, rfl⟩
  · rw [if_neg h1]
    have d1 : decide (x < y) = false := decide_eq_false h1
    by_cases h2 : y < x
    · rw [if_pos h2]
      have d2 : decide (y < x) = true := decide_eq_true h2
      go_enter Try.func69, Try.ntmps69
      go_wp2
      go_ret
      exact ⟨rfl, rfl⟩
    · rw [if_neg h2]
      have d2 : decide (y < x) = false := decide_eq_false h2
      go_enter Try.func69, Try.ntmps69
      go_wp2
      go_ret
      exact ⟨rfl, rfl⟩
/-- which of two places comes first -/
def cmpT (T : List Int) (a b : Nat) : Int := if cmpZ (T.getD b 0) (T.getD a 0) ≠ 0 then cmpZ (T.getD b 0) (T.getD a 0) else cmpZ (a : Int) (b : Int)
set_option maxRecDepth 100000 in
set_option maxHeartbeats 1000000 in
theorem rank1_any (T : List Int) (n g gt a b : Nat) (hn : T.length = n) (ha : a < n) (hb : b < n) (w : World) (hg : w.cell? ⟨g, 0, none⟩ = some (.slice (some ⟨gt, 0, none⟩) n n)) (ht : ∀ i, i < n → w.cell? ⟨gt, i, none⟩ = some (.int .i64 (T.getD i 0))) :
    Calls Try.prog 67 #[.int .i64 (a : Int), .int .i64 (b : Int), .pointer (some ⟨g, 0, none⟩)] w fun e w' => e = .returned (.int .i64 (cmpT T a b)) ∧ ∃ q, w' = w.drewN q := by
  have ca := ht a ha
  have cb := ht b hb
  have i1 : (a : Int) < (n : Int) := by omega
  have i2 : (b : Int) < (n : Int) := by omega
  unfold cmpT
  generalize T.getD a 0 = x at *
  generalize T.getD b 0 = y at *
  have h1 := fun w => cmp64_any y x w
  have h2 := fun w => cmpI_any (a : Int) (b : Int) w
  generalize cmpZ (a : Int) (b : Int) = c2 at *
  generalize cmpZ y x = c1 at *
  clear ht ha hb hn
  by_cases hc : c1 = 0
  · subst hc
    rw [if_neg (by simp)]
    go_enter Try.func67, Try.ntmps67
    go_wp2_with fail
    go_quiet ((go_at_call 68; with_reducible exact quiet_eq (h1 _)))
    go_wp2_with fail
    refine (h2 _).mono ?_
    rintro e w' ⟨rfl, rfl⟩
    go_wp2_with fail
    go_ret
    exact ⟨rfl, _, rfl⟩
  · rw [if_pos hc]
    have d1 : (c1 != 0) = true := by rw [bne_iff_ne]; exact hc
    go_enter Try.func67, Try.ntmps67
    go_wp2_with fail
    go_quiet ((go_at_call 68; with_reducible exact quiet_eq (h1 _)))
    go_wp2_with fail
    go_ret
    exact ⟨rfl, _, rfl⟩
end Sur
end Go.Proofs.Ytmiplljcnchjkaa
