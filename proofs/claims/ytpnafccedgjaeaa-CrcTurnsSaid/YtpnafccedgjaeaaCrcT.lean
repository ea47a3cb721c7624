/-
  Bits turned within 32 of each other: the plain law. No program in sight.
-/
import Derived.Test.YtpnafccedgjaeaaCrcP
namespace Go.Proofs.Ytpnafccedgjaeaa.Crc

/-- one bit of a text -/
def bitAt (s : List UInt8) (i : Nat) : Bool := (cw (s.getD (i / 8) 0)).getLsbD (i % 8)
theorem bits_eq (s : List UInt8) : bits s = (List.range (8 * s.length)).map (bitAt s) := by
  induction s with
  | nil => rfl
  | cons c s ih =>
    have e : bits (c :: s) = lows (cw c) 8 ++ bits s := rfl
    rw [e, ih]
    have hl : 8 * (c :: s).length = 8 + 8 * s.length := by simp; omega
    rw [hl, List.range_add, List.map_append, List.map_map]
    congr 1
    apply List.map_congr_left
    intro i _
    show bitAt s i = bitAt (c :: s) (8 + i)
    unfold bitAt
    have h1 : (8 + i) / 8 = i / 8 + 1 := by omega
    have h2 : (8 + i) % 8 = i % 8 := by omega
    rw [h1, h2, List.getD_cons_succ]

/-- one bit turned -/
def flip (s : List UInt8) (p : Nat) : List UInt8 := s.set (p / 8) (s.getD (p / 8) 0 ^^^ UInt8.ofNat (2 ^ (p % 8)))
theorem flip_len (s : List UInt8) (p : Nat) : (flip s p).length = s.length := by simp [flip]
theorem flip_bit (s : List UInt8) (p i : Nat) (hp : p < 8 * s.length) : bitAt (flip s p) i = xor (bitAt s i) (decide (i = p)) := by
  unfold bitAt flip
  by_cases h : i / 8 = p / 8
  · rw [h]
    have hlt : p / 8 < s.length := by omega
    rw [List.getD_eq_getElem?_getD, List.getElem?_set_self hlt]
    simp only [Option.getD_some]
    rw [cw_bit, cw_bit, UInt8.toNat_xor, Nat.testBit_xor]
    congr 1
    have h2 : 2 ^ (p % 8) < 256 := by
      have : p % 8 < 8 := Nat.mod_lt _ (by decide)
      calc 2 ^ (p % 8) ≤ 2 ^ 7 := Nat.pow_le_pow_right (by decide) (by omega)
        _ < 256 := by decide
    rw [UInt8.toNat_ofNat', Nat.mod_eq_of_lt h2, Nat.testBit_two_pow]
    rw [Bool.eq_iff_iff]
    simp
    omega
  · rw [List.getD_eq_getElem?_getD, List.getElem?_set_ne (fun e => h e.symm), ← List.getD_eq_getElem?_getD]
    have : ¬ i = p := fun e => h (by rw [e])
    simp [this]
/-- bits of a mask turned, the first k of them -/
def flips (s : List UInt8) (n : Nat) (m : BitVec 32) : Nat → List UInt8
  | 0 => s
  | k + 1 => if m.getLsbD k then flip (flips s n m k) (n + k) else flips s n m k
theorem flips_len (s : List UInt8) (n : Nat) (m : BitVec 32) (k : Nat) : (flips s n m k).length = s.length := by
  induction k with
  | zero => rfl
  | succ k ih => unfold flips; split <;> simp [flip_len, ih]
theorem flips_bit (s : List UInt8) (n : Nat) (m : BitVec 32) (k i : Nat) (h : n + k ≤ 8 * s.length) : bitAt (flips s n m k) i = xor (bitAt s i) (decide (n ≤ i ∧ i < n + k) && m.getLsbD (i - n)) := by
  induction k with
  | zero =>
    have : ¬ (n ≤ i ∧ i < n + 0) := by omega
    rw [decide_eq_false this]
    simp [flips]
  | succ k ih =>
    have ih := ih (by omega)
    unfold flips
    split
    · rename_i hm
      rw [flip_bit _ _ _ (by rw [flips_len]; omega), ih]
      by_cases hi : i = n + k
      · subst hi
        have h2 : (n ≤ n + k ∧ n + k < n + (k + 1)) := by omega
        simp [hm]
      · have h1 : (n ≤ i ∧ i < n + (k + 1)) ↔ (n ≤ i ∧ i < n + k) := by omega
        simp [hi, h1]
    · rename_i hm
      rw [ih]
      by_cases hi : i = n + k
      · subst hi
        have h1 : ¬ (n ≤ n + k ∧ n + k < n + k) := by omega
        simp [hm]
      · have h1 : (n ≤ i ∧ i < n + (k + 1)) ↔ (n ≤ i ∧ i < n + k) := by omega
        simp [h1]
theorem burst_eq (N n : Nat) (m : BitVec 32) (h : n + 32 ≤ N) : (List.range N).map (fun i => decide (n ≤ i ∧ i < n + 32) && m.getLsbD (i - n)) = List.replicate n false ++ lows m 32 ++ List.replicate (N - (n + 32)) false := by
  apply List.ext_getElem?
  intro i
  rw [List.append_assoc, List.getElem?_map]
  by_cases hi : i < N
  · rw [List.getElem?_range hi]
    simp only [Option.map_some]
    by_cases h1 : i < n
    · rw [List.getElem?_append_left (by simpa using h1), List.getElem?_replicate, if_pos h1]
      have : ¬ (n ≤ i ∧ i < n + 32) := by omega
      simp [this]
    · rw [List.getElem?_append_right (by simp; omega), List.length_replicate]
      by_cases h2 : i < n + 32
      · rw [List.getElem?_append_left (by simp [lows]; omega)]
        have : (n ≤ i ∧ i < n + 32) := by omega
        simp only [this, lows, List.getElem?_map, List.getElem?_range (show i - n < 32 by omega), Option.map_some, decide_true, Bool.true_and, and_self]
      · rw [List.getElem?_append_right (by simp [lows]; omega)]
        have : ¬ (n ≤ i ∧ i < n + 32) := by omega
        have hl : (lows m 32).length = 32 := by simp [lows]
        rw [hl, List.getElem?_replicate, if_pos (by omega)]
        simp [this]
  · rw [List.getElem?_eq_none (by simp; omega)]
    rw [List.getElem?_eq_none]
    · rfl
    · simp [lows]
      omega
theorem zip_map {α : Type} (l : List α) (f g : α → Bool) : l.map (fun i => xor (f i) (g i)) = List.zipWith xor (l.map f) (l.map g) := by
  induction l with
  | nil => rfl
  | cons a l ih => simp only [List.map_cons, List.zipWith_cons_cons, ih]
/-- turned bits are told -/
theorem flips_reg (s : List UInt8) (n : Nat) (m : BitVec 32) (hm : m ≠ 0#32) (h : n + 32 ≤ 8 * s.length) : reg ones (flips s n m 32) ≠ reg ones s := by
  have e : bits (flips s n m 32) = List.zipWith xor (bits s) (List.replicate n false ++ lows m 32 ++ List.replicate (8 * s.length - (n + 32)) false) := by
    rw [bits_eq, flips_len, ← burst_eq _ _ _ h, bits_eq, ← zip_map]
    apply List.map_congr_left
    intro i _
    exact flips_bit s n m 32 i h
  have hf := fold_xor ones 0#32 (bits s) (List.replicate n false ++ lows m 32 ++ List.replicate (8 * s.length - (n + 32)) false) (by
    have hl : (lows m 32).length = 32 := by unfold lows; rw [List.length_map, List.length_range]
    rw [bits_eq, List.length_map, List.length_range, List.length_append, List.length_append, List.length_replicate, List.length_replicate, hl]
    omega)
  rw [BitVec.xor_zero] at hf
  rw [reg_bits, reg_bits, e, hf]
  intro h0
  have : List.foldl bstep 0#32 (List.replicate n false ++ lows m 32 ++ List.replicate (8 * s.length - (n + 32)) false) = 0#32 := by
    have := congrArg (fun v => List.foldl bstep ones (bits s) ^^^ v) h0
    simpa [← BitVec.xor_assoc] using this
  exact burst m hm n _ this
/-- .. so they have not their sum behind -/
theorem turned (b : List UInt8) (n : Nat) (m : BitVec 32) (hm : m ≠ 0#32) (h : n + 32 ≤ 8 * (b.length + 4)) (a : List UInt8) (t : List UInt8) (he : flips (b ++ le4 (sum b)) n m 32 = a ++ t) : (t == le4 (sum a)) = false := by
  rw [beq_eq_false_iff_ne]
  rintro rfl
  have h1 := flips_reg (b ++ le4 (sum b)) n m hm (by rw [List.length_append]; exact h)
  apply h1
  rw [he, (good_iff a (sum a)).1 rfl, (good_iff b (sum b)).1 rfl]
end Go.Proofs.Ytpnafccedgjaeaa.Crc
