/-
  Sums of 32 bits as tables of words: the plain law. No program in sight.
-/
import Derived.Test.YtpnafccedgjaeaaCrcP
namespace Go.Proofs.Ytpnafccedgjaeaa.Crc

/-- the first k bits of a word -/
def low (x : BitVec 32) (k : Nat) : BitVec 32 := BitVec.ofNat 32 (x.toNat % 2 ^ k)
theorem low_bit (x : BitVec 32) (k i : Nat) : (low x k).getLsbD i = (decide (i < k) && x.getLsbD i) := by
  unfold low
  rw [BitVec.getLsbD_ofNat, Nat.testBit_mod_two_pow]
  by_cases hi : i < 32
  · simp [hi, BitVec.getLsbD]
  · have : x.getLsbD i = false := BitVec.getLsbD_of_ge _ _ (by omega)
    simp [hi, this]
def one (k : Nat) : BitVec 32 := 1#32 <<< k
theorem one_bit (k i : Nat) (hk : k < 32) : (one k).getLsbD i = decide (i = k) := by
  unfold one
  rw [BitVec.getLsbD_shiftLeft]
  by_cases h : i = k
  · subst h; simp [hk]
  · by_cases hlt : i < k
    · simp [hlt, h]
    · have : (1#32).getLsbD (i - k) = false := by
        rw [BitVec.getLsbD_one]; simp; omega
      simp [this, h]
theorem low_succ (x : BitVec 32) (k : Nat) (hk : k < 32) : low x (k + 1) = low x k ^^^ (if x.getLsbD k then one k else 0#32) := by
  apply BitVec.eq_of_getLsbD_eq
  intro i hi
  rw [BitVec.getLsbD_xor, low_bit, low_bit]
  by_cases hx : x.getLsbD k
  · rw [if_pos hx, one_bit _ _ hk]
    by_cases h : i = k
    · subst h; simp [hx]
    · have : (i < k + 1) ↔ i < k := by omega
      simp [h, this]
  · rw [if_neg hx]
    by_cases h : i = k
    · subst h; simp [hx]
    · have : (i < k + 1) ↔ i < k := by omega
      simp [this]
theorem low_zero (x : BitVec 32) : low x 0 = 0#32 := by
  apply BitVec.eq_of_getLsbD_eq
  intro i hi
  rw [low_bit]; simp
theorem low_all (x : BitVec 32) (k : Nat) (h : x >>> k = 0#32) : low x k = x := by
  apply BitVec.eq_of_getLsbD_eq
  intro i hi
  rw [low_bit]
  by_cases hik : i < k
  · simp [hik]
  · have := congrArg (fun v => v.getLsbD (i - k)) h
    simp only [BitVec.getLsbD_ushiftRight, BitVec.getLsbD_zero] at this
    rw [show k + (i - k) = i by omega] at this
    rw [this]; simp
theorem shr_lt {x : BitVec 32} {k : Nat} (h : x >>> k ≠ 0#32) : k < 32 := by
  rcases Nat.lt_or_ge k 32 with h' | h'
  · exact h'
  · exfalso
    apply h
    apply BitVec.eq_of_getLsbD_eq
    intro i hi
    rw [BitVec.getLsbD_ushiftRight, BitVec.getLsbD_of_ge _ _ (by omega)]
    simp
theorem steps_low (N : Nat) (x : BitVec 32) (k : Nat) (hk : k < 32) : steps N (low x (k + 1)) = steps N (low x k) ^^^ (if x.getLsbD k then steps N (one k) else 0#32) := by
  rw [low_succ _ _ hk, steps_lin]
  split
  · rfl
  · rw [steps_zero]
/-- the table of so many steps -/
def mat (N : Nat) : List (BitVec 32) := (List.range 32).map fun i => steps N (one i)
theorem mat_len (N : Nat) : (mat N).length = 32 := by simp [mat]
theorem mat_get (N i : Nat) (h : i < 32) : (mat N)[i]? = some (steps N (one i)) := by simp [mat, h]
/-- steps by halves -/
theorem steps_twice (N : Nat) (i : Nat) : steps N (steps N (one i)) = steps (N + N) (one i) := by rw [steps_add]
theorem steps_bin (x : BitVec 32) (n j : Nat) : (if n / 2 ^ j % 2 = 1 then steps (8 * 2 ^ j) (steps (8 * (n % 2 ^ j)) x) else steps (8 * (n % 2 ^ j)) x) = steps (8 * (n % 2 ^ (j + 1))) x := by
  have hm : n % 2 ^ (j + 1) = n % 2 ^ j + 2 ^ j * (n / 2 ^ j % 2) := by rw [Nat.pow_succ, Nat.mod_mul]
  split
  · rename_i h
    rw [← steps_add]
    congr 1
    rw [hm, h]
    omega
  · rename_i h
    have h0 : n / 2 ^ j % 2 = 0 := by omega
    rw [hm, h0]
    simp
end Go.Proofs.Ytpnafccedgjaeaa.Crc
