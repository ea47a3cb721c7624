/-
  Roots of whole numbers: the plain law. No program in sight.
-/
import Derived.Test.YtmiplljcnchjkaaRow
import Derived.Laws.MathBits
namespace Go.Proofs.Ytmiplljcnchjkaa
open Go.RowKit
set_option linter.unusedVariables false
namespace Root

/-- r is the root of x, rounded down -/
def IsRoot (x r : Nat) : Prop := r * r ≤ x ∧ x < (r + 1) * (r + 1)
theorem lt_of_sq {a b : Nat} (h : a * a < b * b) : a < b := by
  apply Classical.byContradiction
  intro hn
  have := Nat.mul_le_mul (show b ≤ a by omega) (show b ≤ a by omega)
  omega
theorem IsRoot.uniq {x r s : Nat} (h : IsRoot x r) (k : IsRoot x s) : r = s := by
  have a : r < s + 1 := lt_of_sq (Nat.lt_of_le_of_lt h.1 k.2)
  have b : s < r + 1 := lt_of_sq (Nat.lt_of_le_of_lt k.1 h.2)
  omega
theorem IsRoot.lt {x r : Nat} (h : IsRoot x r) (hx : x < 18446744073709551616) : r < 4294967296 := lt_of_sq (Nat.lt_of_le_of_lt h.1 (by omega))
/-- one bit more of a root is found -/
structure RB (x r a : Nat) : Prop where
  low : r * r ≤ x
  high : x < (r + 2 ^ a) * (r + 2 ^ a)
  dvd : r % 2 ^ a = 0
theorem RB.start {x a : Nat} (h : x < 2 ^ a * 2 ^ a) : RB x 0 a := ⟨Nat.zero_le _, by rw [Nat.zero_add]; exact h, Nat.zero_mod _⟩
theorem RB.yes {x r k : Nat} (h : RB x r (k + 1)) (hy : (r + 2 ^ k) * (r + 2 ^ k) ≤ x) : RB x (r + 2 ^ k) k := by
  refine ⟨hy, ?_, ?_⟩
  · have := h.high
    rw [Nat.pow_succ] at this
    have e : r + 2 ^ k + 2 ^ k = r + 2 ^ k * 2 := by omega
    rw [e]
    exact this
  · have := h.dvd
    have hd : 2 ^ k ∣ r := Nat.dvd_trans ⟨2, by rw [Nat.pow_succ]⟩ (Nat.dvd_of_mod_eq_zero this)
    exact Nat.mod_eq_zero_of_dvd (Nat.dvd_add hd (Nat.dvd_refl _))
theorem RB.no {x r k : Nat} (h : RB x r (k + 1)) (hn : x < (r + 2 ^ k) * (r + 2 ^ k)) : RB x r k := by
  refine ⟨h.low, hn, ?_⟩
  exact Nat.mod_eq_zero_of_dvd (Nat.dvd_trans ⟨2, by rw [Nat.pow_succ]⟩ (Nat.dvd_of_mod_eq_zero h.dvd))
theorem RB.done {x r : Nat} (h : RB x r 0) : IsRoot x r := ⟨h.low, h.high⟩
theorem RB.lt {x r a : Nat} (h : RB x r a) (hx : x < 18446744073709551616) : r < 4294967296 := lt_of_sq (Nat.lt_of_le_of_lt h.low (by omega))
theorem or_u64 (a b : Nat) (ha : a < 18446744073709551616) (hb : b < 18446744073709551616) : Go.bits .or .u64 (a : Int) (b : Int) = ((a ||| b : Nat) : Int) := by
  unfold Go.bits
  have e : (BitVec.ofInt IntKind.u64.bits (a : Int) ||| BitVec.ofInt IntKind.u64.bits (b : Int)).toNat = a ||| b := by
    rw [BitVec.toNat_or]
    have h1 : ∀ m : Nat, m < 18446744073709551616 → (BitVec.ofInt IntKind.u64.bits (m : Int)).toNat = m := fun m hm => by
      rw [BitVec.toNat_ofInt]
      show ((m : Int) % ((2 ^ 64 : Nat) : Int)).toNat = m
      omega
    rw [h1 a ha, h1 b hb]
  show IntKind.u64.wrap (((BitVec.ofInt IntKind.u64.bits (a : Int) ||| BitVec.ofInt IntKind.u64.bits (b : Int)).toNat : Nat) : Int) = _
  rw [e, IntKind.wrap_u64]
  have : a ||| b < 2 ^ 64 := Nat.or_lt_two_pow ha hb
  omega
theorem or_add {r k : Nat} (h : r % 2 ^ (k + 1) = 0) : r ||| 2 ^ k = r + 2 ^ k := by
  obtain ⟨q, rfl⟩ := Nat.dvd_of_mod_eq_zero h
  exact (Nat.two_pow_add_eq_or_of_lt (Nat.pow_lt_pow_right (by decide) (Nat.lt_succ_self k)) q).symm
theorem RB.or {x r k : Nat} (h : RB x r (k + 1)) (hx : r < 18446744073709551616) (hk : k ≤ 63) : Go.bits .or .u64 (r : Int) ((2 ^ k : Nat) : Int) = ((r + 2 ^ k : Nat) : Int) := by
  have : 2 ^ k < 18446744073709551616 := Nat.lt_of_le_of_lt (Nat.pow_le_pow_right (by decide) hk) (by decide)
  rw [or_u64 r (2 ^ k) hx this, or_add h.dvd]
/-- how many bits a number has -/
theorem bitLen_at {x j : Nat} (h0 : x / 2 ^ j = 0) (h1 : j = 0 ∨ x / 2 ^ (j - 1) ≠ 0) : bitLen x = j := by
  obtain ⟨b1, b2⟩ := bitLen_spec x
  have hx : x < 2 ^ j := by
    rcases Nat.lt_or_ge x (2 ^ j) with h | h
    · exact h
    · have := Nat.div_pos h (Nat.two_pow_pos j)
      omega
  by_cases hz : x = 0
  · subst hz
    rcases h1 with h1 | h1
    · subst h1; rfl
    · simp at h1
  · have b2 := b2 hz
    rcases Nat.lt_trichotomy (bitLen x) j with hlt | heq | hgt
    · rcases h1 with h1 | h1
      · omega
      · have h2 : 2 ^ bitLen x ≤ 2 ^ (j - 1) := Nat.pow_le_pow_right (by decide) (by omega)
        exact absurd (Nat.div_eq_of_lt (Nat.lt_of_lt_of_le b1 h2)) h1
    · exact heq
    · have h2 : 2 ^ j ≤ 2 ^ (bitLen x - 1) := Nat.pow_le_pow_right (by decide) (by omega)
      omega
theorem bitLen_le {x : Nat} (h : x < 18446744073709551616) : bitLen x ≤ 64 := by
  by_cases hz : x = 0
  · subst hz; decide
  · have b2 := (bitLen_spec x).2 hz
    apply Classical.byContradiction
    intro hn
    have : 2 ^ 64 ≤ 2 ^ (bitLen x - 1) := Nat.pow_le_pow_right (by decide) (by omega)
    omega
theorem bitLen_half (x : Nat) : x < 2 ^ ((bitLen x + 1) / 2 + 1) * 2 ^ ((bitLen x + 1) / 2 + 1) := by
  refine Nat.lt_of_lt_of_le (bitLen_spec x).1 ?_
  rw [← Nat.pow_add]
  exact Nat.pow_le_pow_right (by decide) (by omega)
/-- r is the root of x of degree d, rounded down -/
def IsPow (x d r : Nat) : Prop := r ^ d ≤ x ∧ x < (r + 1) ^ d
theorem lt_of_pow {a b d : Nat} (h : a ^ d < b ^ d) : a < b := by
  apply Classical.byContradiction
  intro hn
  have := Nat.pow_le_pow_left (show b ≤ a by omega) d
  omega
theorem IsPow.uniq {x d r s : Nat} (h : IsPow x d r) (k : IsPow x d s) : r = s := by
  have a : r < s + 1 := lt_of_pow (Nat.lt_of_le_of_lt h.1 k.2)
  have b : s < r + 1 := lt_of_pow (Nat.lt_of_le_of_lt k.1 h.2)
  omega
theorem IsPow.two {x r : Nat} : IsPow x 2 r ↔ IsRoot x r := by
  unfold IsPow IsRoot
  rw [Nat.pow_two, Nat.pow_two]
theorem IsPow.one {x r : Nat} (h : IsPow x 1 r) : r = x := by
  obtain ⟨h1, h2⟩ := h
  rw [Nat.pow_one] at h1 h2
  omega
/-- a power of no less than 2 has no room beyond 63 -/
theorem pow_small {m i x : Nat} (hm : 2 ≤ m) (h : m ^ i ≤ x) (hx : x < 18446744073709551616) : i < 64 := by
  apply Classical.byContradiction
  intro hn
  have h1 : 2 ^ 64 ≤ 2 ^ i := Nat.pow_le_pow_right (by decide) (by omega)
  have h2 : 2 ^ i ≤ m ^ i := Nat.pow_le_pow_left hm i
  omega
theorem pow_up {m i d x : Nat} (hm : 2 ≤ m) (hi : i < d) (h : x < m ^ i * m) : ¬ m ^ d ≤ x := by
  have h1 : m ^ (i + 1) ≤ m ^ d := Nat.pow_le_pow_right (by omega) hi
  rw [Nat.pow_succ] at h1
  omega
theorem pow_tiny {m d x : Nat} (hm : m < 2) (hd : 1 ≤ d) : m ^ d ≤ x ↔ m ≤ x := by
  have : m = 0 ∨ m = 1 := by omega
  rcases this with rfl | rfl
  · rw [Nat.zero_pow hd]
  · rw [Nat.one_pow]
theorem self_pow {m d : Nat} (hd : 1 ≤ d) : m ≤ m ^ d := by
  rcases Nat.eq_zero_or_pos m with h | h
  · omega
  · have := Nat.pow_le_pow_right h hd
    rwa [Nat.pow_one] at this
end Root
end Go.Proofs.Ytmiplljcnchjkaa
