/-
  The logarithm, bit by bit, and how much ground tells: the plain law. No program in sight.
-/
import Derived.Test.YtmiplljcnchjkaaRow
import Derived.Laws.MathBits
namespace Go.Proofs.Ytmiplljcnchjkaa
set_option linter.unusedVariables false
namespace Sur

/-- the mantissa of a number from 1 on, with 62 bits behind the point -/
def mant (x : Nat) : Nat := if x.log2 = 63 then x / 2 else x * 2 ^ (62 - x.log2)
/-- one more bit -/
def lstep (s : Nat × Nat) : Nat × Nat :=
  if 2 ^ 63 ≤ s.2 * s.2 / 2 ^ 62 then (2 * s.1 + 1, s.2 * s.2 / 2 ^ 62 / 2) else (2 * s.1, s.2 * s.2 / 2 ^ 62)
def liter (s : Nat × Nat) : Nat → Nat × Nat
  | 0 => s
  | i + 1 => lstep (liter s i)
def logS (x i : Nat) : Nat × Nat := liter (x.log2, mant x) i
def logL (x : Nat) : Nat := (logS x 16).1
def Man (m : Nat) : Prop := 2 ^ 62 ≤ m ∧ m < 2 ^ 63
theorem log_bounds {x : Nat} (h1 : 1 ≤ x) : 2 ^ x.log2 ≤ x ∧ x < 2 ^ (x.log2 + 1) := ⟨Nat.log2_self_le (by omega), Nat.lt_log2_self⟩
theorem log_lt {x : Nat} (h1 : 1 ≤ x) (hx : x < 2 ^ 64) : x.log2 ≤ 63 := by
  have h := (log_bounds h1).1
  rcases Nat.lt_or_ge 63 x.log2 with h2 | h2
  · have : 2 ^ 64 ≤ 2 ^ x.log2 := Nat.pow_le_pow_right (by decide) (by omega)
    omega
  · exact h2
theorem mant_man {x : Nat} (h1 : 1 ≤ x) (hx : x < 2 ^ 64) : Man (mant x) := by
  have hl := log_lt h1 hx
  obtain ⟨b1, b2⟩ := log_bounds h1
  unfold Man mant
  by_cases h : x.log2 = 63
  · rw [if_pos h]
    rw [h] at b1
    omega
  · rw [if_neg h]
    have e1 : 2 ^ x.log2 * 2 ^ (62 - x.log2) = 2 ^ 62 := by rw [← Nat.pow_add]; congr 1; omega
    have e2 : 2 ^ (x.log2 + 1) * 2 ^ (62 - x.log2) = 2 ^ 63 := by rw [← Nat.pow_add]; congr 1; omega
    have h3 := Nat.mul_le_mul_right (2 ^ (62 - x.log2)) b1
    have h4 := Nat.mul_lt_mul_of_pos_right b2 (Nat.two_pow_pos (62 - x.log2))
    rw [e1] at h3
    rw [e2] at h4
    exact ⟨h3, h4⟩
theorem sq_bounds {m : Nat} (h : Man m) : 2 ^ 62 ≤ m * m / 2 ^ 62 ∧ m * m / 2 ^ 62 < 2 ^ 64 ∧ m * m < 2 ^ 126 := by
  obtain ⟨h1, h2⟩ := h
  have h3 : 2 ^ 62 * 2 ^ 62 ≤ m * m := Nat.mul_le_mul h1 h1
  have h4 : m * m < 2 ^ 63 * 2 ^ 63 := Nat.mul_lt_mul'' h2 h2
  refine ⟨(Nat.le_div_iff_mul_le (by decide)).2 h3, Nat.div_lt_of_lt_mul (Nat.lt_of_lt_of_le h4 (by decide)), Nat.lt_of_lt_of_le h4 (by decide)⟩
theorem lstep_man {s : Nat × Nat} (h : Man s.2) : Man (lstep s).2 := by
  obtain ⟨q1, q2, _⟩ := sq_bounds h
  unfold lstep
  by_cases hq : 2 ^ 63 ≤ s.2 * s.2 / 2 ^ 62
  · rw [if_pos hq]
    show Man (s.2 * s.2 / 2 ^ 62 / 2)
    generalize s.2 * s.2 / 2 ^ 62 = q at *
    unfold Man
    omega
  · rw [if_neg hq]
    show Man (s.2 * s.2 / 2 ^ 62)
    generalize s.2 * s.2 / 2 ^ 62 = q at *
    unfold Man
    omega
theorem liter_man {s : Nat × Nat} (h : Man s.2) : ∀ i, Man (liter s i).2
  | 0 => h
  | i + 1 => lstep_man (liter_man h i)
theorem liter_bounds {s : Nat × Nat} : ∀ i, s.1 * 2 ^ i ≤ (liter s i).1 ∧ (liter s i).1 < (s.1 + 1) * 2 ^ i
  | 0 => by show s.1 * 1 ≤ s.1 ∧ s.1 < (s.1 + 1) * 1; omega
  | i + 1 => by
    obtain ⟨h1, h2⟩ := liter_bounds (s := s) i
    rw [Nat.pow_succ, ← Nat.mul_assoc, ← Nat.mul_assoc]
    show s.1 * 2 ^ i * 2 ≤ (lstep (liter s i)).1 ∧ (lstep (liter s i)).1 < (s.1 + 1) * 2 ^ i * 2
    unfold lstep
    split
    · dsimp only
      omega
    · dsimp only
      omega
theorem logS_man {x : Nat} (h1 : 1 ≤ x) (hx : x < 2 ^ 64) (i : Nat) : Man (logS x i).2 := liter_man (mant_man h1 hx) i
theorem logS_lt {x : Nat} (h1 : 1 ≤ x) (hx : x < 2 ^ 64) (i : Nat) (hi : i ≤ 16) : (logS x i).1 < 4194304 := by
  have h := (liter_bounds (s := (x.log2, mant x)) i).2
  have hl := log_lt h1 hx
  have h2 : (x.log2 + 1) * 2 ^ i ≤ 64 * 2 ^ 16 := Nat.mul_le_mul (by omega) (Nat.pow_le_pow_right (by decide) hi)
  exact Nat.lt_of_lt_of_le h (Nat.le_trans h2 (by decide))
theorem logL_lt {x : Nat} (h1 : 1 ≤ x) (hx : x < 2 ^ 64) : logL x < 4194304 := logS_lt h1 hx 16 (Nat.le_refl _)
theorem logL_ge {x k : Nat} (h : 2 ^ k ≤ x) (hx : x < 2 ^ 64) : k * 65536 ≤ logL x := by
  have h1 := (liter_bounds (s := (x.log2, mant x)) 16).1
  have h2 : k ≤ x.log2 := (Nat.le_log2 (by have := Nat.two_pow_pos k; omega)).2 h
  have h3 : k * 65536 ≤ x.log2 * 2 ^ 16 := Nat.mul_le_mul h2 (by decide)
  exact Nat.le_trans h3 h1
/-- one behind the other -/
def lexle (s t : Nat × Nat) : Prop := s.1 < t.1 ∨ (s.1 = t.1 ∧ s.2 ≤ t.2)
theorem lstep_mono {s t : Nat × Nat} (h : lexle s t) : lexle (lstep s) (lstep t) := by
  unfold lexle at *
  rcases h with h | ⟨h1, h2⟩
  · left
    unfold lstep
    split <;> split <;> dsimp only <;> omega
  · have hq : s.2 * s.2 / 2 ^ 62 ≤ t.2 * t.2 / 2 ^ 62 := Nat.div_le_div_right (Nat.mul_le_mul h2 h2)
    unfold lstep
    generalize s.2 * s.2 / 2 ^ 62 = a at *
    generalize t.2 * t.2 / 2 ^ 62 = b at *
    by_cases ha : 2 ^ 63 ≤ a
    · rw [if_pos ha, if_pos (Nat.le_trans ha hq)]
      right
      dsimp only
      omega
    · rw [if_neg ha]
      by_cases hb : 2 ^ 63 ≤ b
      · rw [if_pos hb]
        left
        dsimp only
        omega
      · rw [if_neg hb]
        right
        dsimp only
        omega
theorem liter_mono {s t : Nat × Nat} (h : lexle s t) : ∀ i, lexle (liter s i) (liter t i)
  | 0 => h
  | i + 1 => lstep_mono (liter_mono h i)
theorem log2_mono {x y : Nat} (hx : 1 ≤ x) (h : x ≤ y) : x.log2 ≤ y.log2 := (Nat.le_log2 (by omega)).2 (Nat.le_trans (log_bounds hx).1 h)
theorem logL_mono {x y : Nat} (hx : 1 ≤ x) (h : x ≤ y) : logL x ≤ logL y := by
  have hs : lexle (x.log2, mant x) (y.log2, mant y) := by
    have h1 := log2_mono hx h
    rcases Nat.lt_or_ge x.log2 y.log2 with h2 | h2
    · exact .inl h2
    · have he : x.log2 = y.log2 := by omega
      refine .inr ⟨he, ?_⟩
      show mant x ≤ mant y
      unfold mant
      rw [← he]
      split
      · omega
      · exact Nat.mul_le_mul_right _ h
  have := liter_mono hs 16
  unfold logL logS
  rcases this with h | h
  · omega
  · omega
/-- how much ground that is so rough tells one who is so unsure -/
def partN (r s : Nat) : Nat := r * r * 65536 / (s * s)
def infoN (r s : Nat) : Nat := (logL (partN r s + 65536) - 1048576) / 2
theorem part_le {r s : Nat} (hr : r ≤ 1048576) (hs : 1 ≤ s) : partN r s ≤ 72057594037927936 := by
  unfold partN
  have h1 : r * r ≤ 1048576 * 1048576 := Nat.mul_le_mul hr hr
  have h2 : r * r * 65536 / (s * s) ≤ r * r * 65536 := Nat.div_le_self _ _
  omega
theorem info_log {r s : Nat} (hr : r ≤ 1048576) (hs : 1 ≤ s) : 1048576 ≤ logL (partN r s + 65536) ∧ logL (partN r s + 65536) < 4194304 := by
  have h := part_le hr hs
  refine ⟨?_, logL_lt (by omega) (by omega)⟩
  have h2 := logL_ge (x := partN r s + 65536) (k := 16) (by show 65536 ≤ _; omega) (by omega)
  omega
theorem info_mono {r r' s s' : Nat} (hr : r ≤ r') (hs : s' ≤ s) (h1 : 1 ≤ s') : infoN r s ≤ infoN r' s' := by
  have hp : partN r s ≤ partN r' s' := by
    unfold partN
    have a1 : r * r * 65536 ≤ r' * r' * 65536 := Nat.mul_le_mul_right _ (Nat.mul_le_mul hr hr)
    have a2 : s' * s' ≤ s * s := Nat.mul_le_mul hs hs
    have a3 : 1 ≤ s' * s' := Nat.mul_le_mul h1 h1
    refine Nat.le_trans (Nat.div_le_div_right a1) ?_
    exact Nat.div_le_div_left a2 a3
  have := logL_mono (x := partN r s + 65536) (y := partN r' s' + 65536) (by omega) (by omega)
  unfold infoN
  omega
end Sur
end Go.Proofs.Ytmiplljcnchjkaa
