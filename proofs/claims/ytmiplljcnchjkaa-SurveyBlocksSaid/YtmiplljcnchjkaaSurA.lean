/-
  The walks of survey's sums: one more height; how rough they are.
-/
import Derived.Test.YtmiplljcnchjkaaSurC
import Derived.Deep.RegionHeld3
namespace Go.Proofs.Ytmiplljcnchjkaa
open Go.RowKit
set_option linter.unusedVariables false
namespace Sur
open Root (IsRoot rfloor_any)
/-- how many heights, their sum, that of their squares, how many are missing -/
structure Sm where
  n : Int
  s : Int
  q : Int
  v : Int
def Sm.cells (a : Sm) : List Value := [.int .i64 a.n, .int .i64 a.s, .int .i64 a.q, .int .i64 a.v]
def Sm.add (a : Sm) (z : Int) : Sm := if z = -32768 then ⟨a.n, a.s, a.q, a.v + 1⟩ else ⟨a.n + 1, a.s + z, a.q + z * z, a.v⟩
def Sm.Small (a : Sm) (k : Int) : Prop := 0 ≤ a.n ∧ a.n ≤ k ∧ -(32768 * k) ≤ a.s ∧ a.s ≤ 32768 * k ∧ 0 ≤ a.q ∧ a.q ≤ 1073741824 * k ∧ 0 ≤ a.v ∧ a.v ≤ k
theorem sq_le {z : Int} (h1 : -32768 ≤ z) (h2 : z ≤ 32767) : 0 ≤ z * z ∧ z * z ≤ 1073741824 := by
  obtain ⟨m, hm⟩ : ∃ m : Nat, z = (m : Int) ∨ z = -(m : Int) := ⟨z.natAbs, by omega⟩
  have e : z * z = ((m * m : Nat) : Int) := by
    rcases hm with rfl | rfl
    · exact (Int.natCast_mul m m).symm
    · rw [Int.neg_mul_neg]; exact (Int.natCast_mul m m).symm
  have hm2 : m ≤ 32768 := by omega
  have : m * m ≤ 32768 * 32768 := Nat.mul_le_mul hm2 hm2
  rw [e]
  omega
theorem Sm.Small.add {a : Sm} {k z : Int} (h : a.Small k) (h1 : -32768 ≤ z) (h2 : z ≤ 32767) : (a.add z).Small (k + 1) := by
  have hs := sq_le h1 h2
  obtain ⟨a1, a2, a3, a4, a5, a6, a7, a8⟩ := h
  unfold Sm.add
  split
  · exact ⟨a1, by dsimp only; omega, by dsimp only; omega, by dsimp only; omega, a5, by dsimp only; omega, by dsimp only; omega, by dsimp only; omega⟩
  · refine ⟨?_, ?_, ?_, ?_, ?_, ?_, ?_, ?_⟩ <;> dsimp only <;> omega
/-- what stands in memory of one of them, before and behind -/
def At4 (w : World) (g o : Nat) (a : Sm) : Prop := w.cell? ⟨g, o, none⟩ = some (.int .i64 a.n) ∧ w.cell? ⟨g, o + 1, none⟩ = some (.int .i64 a.s) ∧ w.cell? ⟨g, o + 2, none⟩ = some (.int .i64 a.q) ∧ w.cell? ⟨g, o + 3, none⟩ = some (.int .i64 a.v)
def Add4 (w : World) (g o : Nat) (a : Sm) (z : Int) (w' : World) : Prop :=
  (z = -32768 ∧ w' = w.setCell ⟨g, o + 3, none⟩ (.int .i64 (a.v + 1))) ∨
  (z ≠ -32768 ∧ w' = (((w.drew.setCell ⟨g, o, none⟩ (.int .i64 (a.n + 1))).setCell ⟨g, o + 1, none⟩ (.int .i64 (a.s + z))).setCell ⟨g, o + 2, none⟩ (.int .i64 (a.q + z * z))))
set_option maxRecDepth 100000 in
set_option maxHeartbeats 1000000 in
theorem add_any (g o : Nat) (a : Sm) (z k : Int) (hk : a.Small k) (hk2 : k ≤ 1000000) (h1 : -32768 ≤ z) (h2 : z ≤ 32767) (w : World) (hc : At4 w g o a) (hf : ∀ i, w.frozen? ⟨g, i, none⟩ = false) :
    Calls Try.prog 60 #[.pointer (some ⟨g, o, none⟩), .int .i16 z] w fun e w' => e = .returned (.tuple #[]) ∧ Add4 w g o a z w' := by
  obtain ⟨n, s, q, v⟩ := a
  obtain ⟨c0, c1, c2, c3⟩ := hc
  obtain ⟨a1, a2, a3, a4, a5, a6, a7, a8⟩ := hk
  have hs := sq_le h1 h2
  dsimp only at c0 c1 c2 c3 a1 a2 a3 a4 a5 a6 a7 a8
  have f0 := hf o
  have f1 := hf (o + 1)
  have f2 := hf (o + 2)
  have f3 := hf (o + 3)
  unfold Add4
  dsimp only
  clear hf
  by_cases hz : z = -32768
  · subst hz
    have u1 : IntKind.i64.wrap (v + 1) = v + 1 := IntWalk.i64_in _ (by omega)
    go_enter Try.func60, Try.ntmps60
    go_wp2_with fail
    refine bodyPost_ret (results_none rfl _ _ _) rfl ?_
    exact ⟨rfl, .inl (by simp)⟩
  · have d : (z == -32768) = false := by rw [beq_eq_false_iff_ne]; exact hz
    have u1 : IntKind.i64.wrap (n + 1) = n + 1 := IntWalk.i64_in _ (by omega)
    have u2 : IntKind.i64.wrap (s + z) = s + z := IntWalk.i64_in _ (by omega)
    have u3 : IntKind.i64.wrap (z * z) = z * z := IntWalk.i64_in _ (by omega)
    have u4 : IntKind.i64.wrap (q + z * z) = q + z * z := IntWalk.i64_in _ (by omega)
    have u5 : IntKind.i64.wrap z = z := IntWalk.i64_in _ (by omega)
    go_enter Try.func60, Try.ntmps60
    go_wp2_with fail
    go_region
    go_wp2_with fail
    all_goals
      go_end0
      exact ⟨rfl, .inr ⟨hz, rfl⟩⟩
/-- the root, rounded down -/
def rootN : Nat → Nat
  | 0 => 0
  | x + 1 => if (rootN x + 1) * (rootN x + 1) ≤ x + 1 then rootN x + 1 else rootN x
theorem rootN_is : ∀ x, IsRoot x (rootN x)
  | 0 => ⟨by decide, by decide⟩
  | x + 1 => by
    obtain ⟨h1, h2⟩ := rootN_is x
    unfold rootN
    by_cases h : (rootN x + 1) * (rootN x + 1) ≤ x + 1
    · rw [if_pos h]
      refine ⟨h, ?_⟩
      have e : (rootN x + 1 + 1) * (rootN x + 1 + 1) = (rootN x + 1) * (rootN x + 1) + 2 * (rootN x + 1) + 1 := by
        rw [Nat.mul_add, Nat.add_mul, Nat.mul_one, Nat.one_mul]
        omega
      omega
    · rw [if_neg h]
      exact ⟨by omega, by omega⟩
theorem floor_is (x : Nat) (hx : x < 18446744073709551616) (w : World) : Calls Try.prog 13 #[.int .u64 (x : Int)] w fun e w' => e = .returned (.int .u64 (rootN x : Int)) ∧ w = w' :=
  (rfloor_any x hx w).mono fun e w' ⟨r, he, hr, hw⟩ => ⟨by rw [he, hr.uniq (rootN_is x)], hw⟩
/-- what the root is drawn of -/
def rawZ (a : Sm) : Nat := (IntKind.u64.wrap ((256 * (a.n * a.q - a.s * a.s)).tdiv (a.n * a.n))).toNat
def roughZ (a : Sm) : Int := if a.n = 0 then 0 else (rootN (rawZ a) : Int)
theorem rawZ_lt (a : Sm) : rawZ a < 18446744073709551616 := by
  unfold rawZ
  rw [IntKind.wrap_u64]
  omega
theorem tdiv_small {e d : Int} (hd : 1 ≤ d) (k : Int) (h1 : -k ≤ e) (h2 : e ≤ k) : -k ≤ e.tdiv d ∧ e.tdiv d ≤ k := by
  rcases Int.le_total 0 e with h | h
  · rw [Int.tdiv_eq_ediv_of_nonneg h]
    have := Int.ediv_nonneg h (show 0 ≤ d by omega)
    have := Int.ediv_le_self d h
    omega
  · have e' : e.tdiv d = -((-e).tdiv d) := by rw [Int.neg_tdiv, Int.neg_neg]
    rw [e', Int.tdiv_eq_ediv_of_nonneg (by omega)]
    have := Int.ediv_nonneg (show 0 ≤ -e by omega) (show 0 ≤ d by omega)
    have := Int.ediv_le_self d (show 0 ≤ -e by omega)
    omega
set_option maxRecDepth 100000 in
set_option maxHeartbeats 1000000 in
theorem rough_any (g o : Nat) (a : Sm) (ha : a.Small 64) (w : World) (hc : At4 w g o a) :
    Calls Try.prog 61 #[.pointer (some ⟨g, o, none⟩)] w fun e w' => e = .returned (.int .i64 (roughZ a)) ∧ ∃ m, w' = w.drewN m := by
  have hxl := rawZ_lt a
  have hfl := floor_is (rawZ a) hxl
  have hrl := (rootN_is (rawZ a)).lt hxl
  have hraw : IntKind.u64.wrap ((256 * (a.n * a.q - a.s * a.s)).tdiv (a.n * a.n)) = (rawZ a : Int) := by
    unfold rawZ
    rw [Int.toNat_of_nonneg (wrap_u64_nonneg _)]
  have hro : roughZ a = if a.n = 0 then 0 else (rootN (rawZ a) : Int) := rfl
  rw [hro]
  obtain ⟨x, hx⟩ : ∃ x, x = rawZ a := ⟨_, rfl⟩
  rw [← hx] at hxl hfl hrl hraw ⊢
  obtain ⟨r, hr⟩ : ∃ r, r = rootN x := ⟨_, rfl⟩
  rw [← hr] at hfl hrl ⊢
  clear hx hr hro
  obtain ⟨n, s, q, v⟩ := a
  obtain ⟨c0, c1, c2, c3⟩ := hc
  obtain ⟨a1, a2, a3, a4, a5, a6, a7, a8⟩ := ha
  dsimp only at c0 c1 c2 c3 a1 a2 a3 a4 a5 a6 a7 a8 hraw ⊢
  by_cases hn : n = 0
  · subst hn
    rw [if_pos rfl]
    go_enter Try.func61, Try.ntmps61
    go_wp2_with fail
    go_ret
    exact ⟨rfl, 0, rfl⟩
  · rw [if_neg hn]
    have hd : (n == 0) = false := by rw [beq_eq_false_iff_ne]; exact hn
    have n1 : 0 ≤ n * q ∧ n * q ≤ 64 * 68719476736 := ⟨Int.mul_nonneg a1 a5, Int.le_trans (Int.mul_le_mul_of_nonneg_right a2 a5) (Int.mul_le_mul_of_nonneg_left (by omega) (by omega))⟩
    have n2 : 1 ≤ n * n ∧ n * n ≤ 64 * 64 := ⟨Int.mul_le_mul (show 1 ≤ n by omega) (show 1 ≤ n by omega) (by omega) (by omega), Int.mul_le_mul a2 a2 a1 (by omega)⟩
    have n3 : 0 ≤ s * s ∧ s * s ≤ 2097152 * 2097152 := by
      obtain ⟨m, hm⟩ : ∃ m : Nat, s = (m : Int) ∨ s = -(m : Int) := ⟨s.natAbs, by omega⟩
      have e : s * s = ((m * m : Nat) : Int) := by
        rcases hm with rfl | rfl
        · exact (Int.natCast_mul m m).symm
        · rw [Int.neg_mul_neg]; exact (Int.natCast_mul m m).symm
      have hm2 : m ≤ 2097152 := by omega
      have : m * m ≤ 2097152 * 2097152 := Nat.mul_le_mul hm2 hm2
      rw [e]
      omega
    obtain ⟨nq, hnq⟩ : ∃ x, x = n * q := ⟨_, rfl⟩
    obtain ⟨nn, hnn⟩ : ∃ x, x = n * n := ⟨_, rfl⟩
    obtain ⟨ss, hss⟩ : ∃ x, x = s * s := ⟨_, rfl⟩
    rw [← hnq] at n1 hraw
    rw [← hnn] at n2 hraw
    rw [← hss] at n3 hraw
    have u1 : IntKind.i64.wrap (n * q) = nq := by rw [← hnq]; exact IntWalk.i64_in _ (by omega)
    have u2 : IntKind.i64.wrap (n * n) = nn := by rw [← hnn]; exact IntWalk.i64_in _ (by omega)
    have u3 : IntKind.i64.wrap (s * s) = ss := by rw [← hss]; exact IntWalk.i64_in _ (by omega)
    obtain ⟨df, hdf⟩ : ∃ x, x = nq - ss := ⟨_, rfl⟩
    have u4 : IntKind.i64.wrap (nq - ss) = df := by rw [← hdf]; exact IntWalk.i64_in _ (by omega)
    rw [← hdf] at hraw
    obtain ⟨e, he⟩ : ∃ x, x = 256 * df := ⟨_, rfl⟩
    have u5 : IntKind.i64.wrap (256 * df) = e := by rw [← he]; exact IntWalk.i64_in _ (by omega)
    rw [← he] at hraw
    have hE : -(256 * 4398046511104) ≤ e ∧ e ≤ 256 * 4398046511104 := by omega
    have hv := tdiv_small n2.1 _ hE.1 hE.2
    have hn0 : (nn == 0) = false := by rw [beq_eq_false_iff_ne]; omega
    have hn1 : ¬ nn = 0 := by omega
    obtain ⟨vv, hvv⟩ : ∃ x, x = e.tdiv nn := ⟨_, rfl⟩
    rw [← hvv] at hraw hv
    have u6 : IntKind.i64.wrap (e.tdiv nn) = vv := by rw [← hvv]; exact IntWalk.i64_in _ (by omega)
    have u7 : IntKind.i64.wrap (r : Int) = (r : Int) := IntWalk.i64_in _ (by omega)
    clear hnq hnn hss hdf he hvv
    clear n1 n2 n3 hE hv a1 a2 a3 a4 a5 a6 a7 a8
    go_enter Try.func61, Try.ntmps61
    go_wp2_with fail
    go_quiet ((go_at_call 13; with_reducible exact quiet_eq (hfl _)))
    go_wp2_with fail
    go_ret
    exact ⟨rfl, _, rfl⟩
end Sur
end Go.Proofs.Ytmiplljcnchjkaa
