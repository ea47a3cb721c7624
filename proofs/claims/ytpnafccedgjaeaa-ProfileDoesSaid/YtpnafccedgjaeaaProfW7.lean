/-
  The walks of the reference of package profile: in, near, New, Move, Same.
-/
import Derived.Test.YtpnafccedgjaeaaProfW5
namespace Go.Proofs.Ytpnafccedgjaeaa
open Go.RowKit
namespace Prof

theorem in_any (x : Int) (w : World) : Calls Try.prog 47 #[.int .i64 x] w fun e w' => e = .returned (.bool (decide (inB x))) ∧ w = w' := by
  by_cases h : inB x
  · have e : decide (inB x) = true := by simpa using h
    rw [e]
    clear e
    obtain ⟨h1, h2⟩ := h
    go_enter Try.func47, Try.ntmps47
    go_wp2
    go_ret
    exact ⟨rfl, rfl⟩
  · have e : decide (inB x) = false := by simpa using h
    rw [e]
    clear e
    rcases outB h with h1 | ⟨h1, h2⟩
    all_goals
      clear h
      go_enter Try.func47, Try.ntmps47
      go_wp2
      go_ret
      first | exact ⟨rfl, rfl⟩ | exact ⟨congrArg (fun b => Ending.returned (.bool b)) (decide_eq_false (by omega)), rfl⟩

theorem near_any (a b gap : Int) (w : World) (ha : inB a) (hb : inB b) : Calls Try.prog 48 #[.int .i64 a, .int .i64 b, .int .i64 gap] w fun e w' => e = .returned (.bool (decide (a - b < gap) && decide (b - a < gap))) ∧ w = w' := by
  obtain ⟨a1, a2⟩ := ha
  obtain ⟨b1, b2⟩ := hb
  have w1' : IntKind.i64.wrap (a - b) = a - b := IntWalk.i64_in _ (by omega)
  have w2' : IntKind.i64.wrap (b - a) = b - a := IntWalk.i64_in _ (by omega)
  by_cases h1 : a - b < gap
  · by_cases h2 : b - a < gap
    · rw [decide_eq_true h1, decide_eq_true h2]
      go_enter Try.func48, Try.ntmps48
      go_wp2
      go_ret
      exact ⟨rfl, rfl⟩
    · rw [decide_eq_true h1, decide_eq_false h2]
      have h2' : gap ≤ b - a := by omega
      clear h2
      go_enter Try.func48, Try.ntmps48
      go_wp2
      go_ret
      exact ⟨congrArg (fun b => Ending.returned (.bool b)) (decide_eq_false (by omega)), rfl⟩
  · rw [decide_eq_false h1]
    have h1' : gap ≤ a - b := by omega
    clear h1
    go_enter Try.func48, Try.ntmps48
    go_wp2
    go_ret
    exact ⟨rfl, rfl⟩

/-- the reference's value -/
def rv (v : Value) (x y gap : Int) : Value := .agg #[v, .int .i64 x, .int .i64 y, .int .i64 gap]

set_option maxHeartbeats 1000000 in
theorem rnew_any (g : Int) (w : World) :
    Calls Try.prog 25 #[.int .i64 g] w fun e w' => e = .returned (rv (.slice none 0 0) 0 0 (clamp g)) ∧ Below w.heap.size w w' := by
  have hc : (g < 0 ∧ clamp g = 0) ∨ (0 ≤ g ∧ 1048576 < g ∧ clamp g = 1048576) ∨ (0 ≤ g ∧ g ≤ 1048576 ∧ clamp g = g) := by unfold clamp; omega
  generalize clamp g = c at *
  rcases hc with ⟨h1, rfl⟩ | ⟨h1, h2, rfl⟩ | ⟨h1, h2, rfl⟩
  · go_enter Try.func25, Try.ntmps25
    go_wp2
    exact bodyPost_ret (v := rv (.slice none 0 0) 0 0 0) (by simp [results, Try.results25, go_sem, rv]) rfl ⟨rfl, bl _ _⟩
  · go_enter Try.func25, Try.ntmps25
    go_wp2
    exact bodyPost_ret (v := rv (.slice none 0 0) 0 0 1048576) (by simp [results, Try.results25, go_sem, rv]) rfl ⟨rfl, bl _ _⟩
  · go_enter Try.func25, Try.ntmps25
    go_wp2
    exact bodyPost_ret (v := rv (.slice none 0 0) 0 0 c) (by simp [results, Try.results25, go_sem, rv]) rfl ⟨rfl, bl _ _⟩

/-- a value of the reference's is moved -/
def rmv (v : Value) (x y gap dx dy : Int) : Value := if mayMove x y dx dy then rv v (x + dx) (y + dy) gap else rv v x y gap
set_option maxHeartbeats 1000000 in
theorem rmove_any (A : Option Addr) (n cap : Nat) (x y gap dx dy : Int) (w : World) (hx : inB x) (hy : inB y) :
    Calls Try.prog 26 #[rv (.slice A n cap) x y gap, .int .i64 dx, .int .i64 dy] w fun e w' => e = .returned (.tuple #[rmv (.slice A n cap) x y gap dx dy, .bool (mayMove x y dx dy)]) ∧ Below w.heap.size w w' := by
  have hin := in_any
  unfold rmv
  by_cases h1 : inB dx
  · have e1 : decide (inB dx) = true := by simpa using h1
    by_cases h2 : inB dy
    · have e2 : decide (inB dy) = true := by simpa using h2
      have w1 : IntKind.i64.wrap (x + dx) = x + dx := IntWalk.i64_in _ (by unfold inB at *; omega)
      have w2 : IntKind.i64.wrap (y + dy) = y + dy := IntWalk.i64_in _ (by unfold inB at *; omega)
      by_cases h3 : inB (x + dx)
      · have e3 : decide (inB (x + dx)) = true := by simpa using h3
        by_cases h4 : inB (y + dy)
        · have hmv : mayMove x y dx dy = true := by simp [mayMove, *]
          rw [hmv, if_pos rfl]
          have e4 : decide (inB (y + dy)) = true := by simpa using h4
          clear h1 h2 h3 h4 hmv hx hy
          unfold rv
          go_enter Try.func26, Try.ntmps26
          go_wp2_with (go_at_call 47; refine (hin _ _).mono ?_; rintro e w' ⟨rfl, rfl⟩)
          exact bodyPost_ret (v := .tuple #[rv (.slice A n cap) (x + dx) (y + dy) gap, .bool true]) (by simp [results, Try.results26, go_sem, rv]) rfl ⟨rfl, bt (bl _ _) (bl _ _)⟩
        · have hmv : mayMove x y dx dy = false := by simp [mayMove, h4]
          rw [hmv, if_neg (by decide)]
          have e4 : decide (inB (y + dy)) = false := by simpa using h4
          clear h1 h2 h3 h4 hmv hx hy
          unfold rv
          go_enter Try.func26, Try.ntmps26
          go_wp2_with (go_at_call 47; refine (hin _ _).mono ?_; rintro e w' ⟨rfl, rfl⟩)
          exact bodyPost_ret (v := .tuple #[rv (.slice A n cap) x y gap, .bool false]) (by simp [results, Try.results26, go_sem, rv]) rfl ⟨rfl, bt (bl _ _) (bl _ _)⟩
      · have hmv : mayMove x y dx dy = false := by simp [mayMove, h3]
        rw [hmv, if_neg (by decide)]
        have e3 : decide (inB (x + dx)) = false := by simpa using h3
        clear h1 h2 h3 hmv hx hy
        unfold rv
        go_enter Try.func26, Try.ntmps26
        go_wp2_with (go_at_call 47; refine (hin _ _).mono ?_; rintro e w' ⟨rfl, rfl⟩)
        exact bodyPost_ret (v := .tuple #[rv (.slice A n cap) x y gap, .bool false]) (by simp [results, Try.results26, go_sem, rv]) rfl ⟨rfl, bt (bl _ _) (bl _ _)⟩
    · have hmv : mayMove x y dx dy = false := by simp [mayMove, h2]
      rw [hmv, if_neg (by decide)]
      have e2 : decide (inB dy) = false := by simpa using h2
      clear h1 h2 hmv hx hy
      unfold rv
      go_enter Try.func26, Try.ntmps26
      go_wp2_with (go_at_call 47; refine (hin _ _).mono ?_; rintro e w' ⟨rfl, rfl⟩)
      exact bodyPost_ret (v := .tuple #[rv (.slice A n cap) x y gap, .bool false]) (by simp [results, Try.results26, go_sem, rv]) rfl ⟨rfl, bt (bl _ _) (bl _ _)⟩
  · have hmv : mayMove x y dx dy = false := by simp [mayMove, h1]
    rw [hmv, if_neg (by decide)]
    have e1 : decide (inB dx) = false := by simpa using h1
    clear h1 hmv hx hy
    unfold rv
    go_enter Try.func26, Try.ntmps26
    go_wp2_with (go_at_call 47; refine (hin _ _).mono ?_; rintro e w' ⟨rfl, rfl⟩)
    exact bodyPost_ret (v := .tuple #[rv (.slice A n cap) x y gap, .bool false]) (by simp [results, Try.results26, go_sem, rv]) rfl ⟨rfl, bt (bl _ _) (bl _ _)⟩

end Prof
end Go.Proofs.Ytpnafccedgjaeaa
