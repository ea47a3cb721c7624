/-
  Bits as a row, and as bytes, the highest of each byte first: the plain law. No program in sight.
-/
namespace Go.Proofs.Ytgncngpgodfijaa.Bits

def btv (l : List Bool) (i : Nat) : Nat := (l.getD i false).toNat
theorem bt_le (l : List Bool) (i : Nat) : btv l i ≤ 1 := by unfold btv; cases l.getD i false <;> decide
/-- the number of eight bits -/
def byteOf (l : List Bool) (i : Nat) : Nat :=
  128 * btv l (8 * i) + 64 * btv l (8 * i + 1) + 32 * btv l (8 * i + 2) + 16 * btv l (8 * i + 3) + 8 * btv l (8 * i + 4) + 4 * btv l (8 * i + 5) + 2 * btv l (8 * i + 6) + btv l (8 * i + 7)
theorem byteOf_lt (l : List Bool) (i : Nat) : byteOf l i < 256 := by
  have := bt_le l (8 * i); have := bt_le l (8 * i + 1); have := bt_le l (8 * i + 2); have := bt_le l (8 * i + 3)
  have := bt_le l (8 * i + 4); have := bt_le l (8 * i + 5); have := bt_le l (8 * i + 6); have := bt_le l (8 * i + 7)
  unfold byteOf
  omega
def nb (n : Nat) : Nat := (n + 7) / 8
def packN (l : List Bool) (m : Nat) : List UInt8 := (List.range m).map fun i => UInt8.ofNat (byteOf l i)
def pack (l : List Bool) : List UInt8 := packN l (nb l.length)
theorem packN_len (l : List Bool) (m : Nat) : (packN l m).length = m := by simp [packN]
theorem pack_len (l : List Bool) : (pack l).length = nb l.length := packN_len _ _
theorem packN_get (l : List Bool) (m i : Nat) (h : i < m) : (packN l m)[i]? = some (UInt8.ofNat (byteOf l i)) := by simp [packN, h]
theorem byte_nat (l : List Bool) (i : Nat) : (UInt8.ofNat (byteOf l i)).toNat = byteOf l i := by
  rw [UInt8.toNat_ofNat']
  exact Nat.mod_eq_of_lt (byteOf_lt l i)
theorem bt_out (l : List Bool) (i : Nat) (h : l.length ≤ i) : btv l i = 0 := by unfold btv; rw [List.getD_eq_getElem?_getD, List.getElem?_eq_none h]; rfl
theorem byteOf_out (l : List Bool) (i : Nat) (h : l.length ≤ 8 * i) : byteOf l i = 0 := by
  unfold byteOf
  simp only [bt_out l _ (show l.length ≤ 8 * i by omega), bt_out l _ (show l.length ≤ 8 * i + 1 by omega), bt_out l _ (show l.length ≤ 8 * i + 2 by omega), bt_out l _ (show l.length ≤ 8 * i + 3 by omega),
    bt_out l _ (show l.length ≤ 8 * i + 4 by omega), bt_out l _ (show l.length ≤ 8 * i + 5 by omega), bt_out l _ (show l.length ≤ 8 * i + 6 by omega), bt_out l _ (show l.length ≤ 8 * i + 7 by omega)]
theorem bt_snoc (l : List Bool) (b : Bool) (i : Nat) : btv (l ++ [b]) i = if i = l.length then b.toNat else btv l i := by
  unfold btv
  simp only [List.getD_eq_getElem?_getD]
  by_cases h : i < l.length
  · rw [List.getElem?_append_left h, if_neg (by omega)]
  · by_cases h' : i = l.length
    · rw [if_pos h', h']; simp
    · rw [if_neg h', List.getElem?_eq_none (by simp; omega), List.getElem?_eq_none (by omega)]
/-- the byte in which the next bit goes, ahead of it -/
theorem pack_more (l : List Bool) (h : l.length % 8 = 0) : pack l ++ [0] = packN l (nb (l.length + 1)) := by
  have e : nb (l.length + 1) = nb l.length + 1 := by unfold nb; omega
  unfold pack
  rw [e]
  unfold packN
  rw [List.range_succ, List.map_append]
  congr 1
  have : byteOf l (nb l.length) = 0 := byteOf_out l _ (by unfold nb; omega)
  simp [this]
theorem pack_same (l : List Bool) (h : l.length % 8 ≠ 0) : pack l = packN l (nb (l.length + 1)) := by
  have e : nb (l.length + 1) = nb l.length := by unfold nb; omega
  unfold pack
  rw [e]
theorem byteOf_false (l : List Bool) (i : Nat) : byteOf (l ++ [false]) i = byteOf l i := by
  have h : ∀ j, btv (l ++ [false]) j = btv l j := by
    intro j
    rw [bt_snoc]
    split
    · rename_i e; rw [bt_out l j (by omega)]; rfl
    · rfl
  unfold byteOf
  simp only [h]
theorem byteOf_far (l : List Bool) (i : Nat) (h : i ≠ l.length / 8) : byteOf (l ++ [true]) i = byteOf l i := by
  have h : ∀ j, j < 8 → btv (l ++ [true]) (8 * i + j) = btv l (8 * i + j) := by
    intro j hj
    rw [bt_snoc, if_neg (by omega)]
  unfold byteOf
  rw [h 1 (by omega), h 2 (by omega), h 3 (by omega), h 4 (by omega), h 5 (by omega), h 6 (by omega), h 7 (by omega), show 8 * i = 8 * i + 0 from rfl, h 0 (by omega)]
theorem byteOf_add (l : List Bool) : byteOf (l ++ [true]) (l.length / 8) = byteOf l (l.length / 8) + 128 / 2 ^ (l.length % 8) := by
  have hr : l.length = 8 * (l.length / 8) + l.length % 8 := by omega
  have hlt : l.length % 8 < 8 := Nat.mod_lt _ (by decide)
  generalize l.length / 8 = q at *
  generalize l.length % 8 = r at *
  have h : ∀ j, btv (l ++ [true]) (8 * q + j) = if j = r then 1 else btv l (8 * q + j) := by
    intro j
    rw [bt_snoc]
    by_cases e : j = r
    · rw [if_pos (by omega), if_pos e]; rfl
    · rw [if_neg (by omega), if_neg e]
  have ho : ∀ j, r ≤ j → btv l (8 * q + j) = 0 := fun j hj => bt_out l _ (by omega)
  unfold byteOf
  rw [show 8 * q = 8 * q + 0 from rfl]
  simp only [Nat.add_zero]
  rw [show btv (l ++ [true]) (8 * q) = btv (l ++ [true]) (8 * q + 0) from rfl, show btv l (8 * q) = btv l (8 * q + 0) from rfl]
  simp only [h]
  have hc : r = 0 ∨ r = 1 ∨ r = 2 ∨ r = 3 ∨ r = 4 ∨ r = 5 ∨ r = 6 ∨ r = 7 := by omega
  rcases hc with rfl | rfl | rfl | rfl | rfl | rfl | rfl | rfl
  all_goals
    simp (config := { decide := true }) only [if_true, if_false]
    have := ho 0; have := ho 1; have := ho 2; have := ho 3; have := ho 4; have := ho 5; have := ho 6; have := ho 7
    simp only [Nat.reducePow, Nat.reduceDiv]
    omega
theorem byteOf_low (l : List Bool) : byteOf l (l.length / 8) % 2 ^ (8 - l.length % 8) = 0 := by
  have hr : l.length = 8 * (l.length / 8) + l.length % 8 := by omega
  have hlt : l.length % 8 < 8 := Nat.mod_lt _ (by decide)
  generalize l.length / 8 = q at *
  generalize l.length % 8 = r at *
  have ho : ∀ j, r ≤ j → btv l (8 * q + j) = 0 := fun j hj => bt_out l _ (by omega)
  have h0 : r ≤ 0 → btv l (8 * q) = 0 := fun h => ho 0 h
  unfold byteOf
  have hc : r = 0 ∨ r = 1 ∨ r = 2 ∨ r = 3 ∨ r = 4 ∨ r = 5 ∨ r = 6 ∨ r = 7 := by omega
  rcases hc with rfl | rfl | rfl | rfl | rfl | rfl | rfl | rfl
  all_goals
    have := ho 1; have := ho 2; have := ho 3; have := ho 4; have := ho 5; have := ho 6; have := ho 7
    simp only [Nat.reducePow, Nat.reduceSub]
    omega
theorem or_add : ∀ r, r < 8 → ∀ a, a < 256 → a % 2 ^ (8 - r) = 0 → a ||| (128 / 2 ^ r) = a + 128 / 2 ^ r := by decide +kernel
theorem byteOf_or (l : List Bool) : byteOf l (l.length / 8) ||| (128 / 2 ^ (l.length % 8)) = byteOf (l ++ [true]) (l.length / 8) := by
  rw [byteOf_add]
  exact or_add _ (Nat.mod_lt _ (by decide)) _ (byteOf_lt _ _) (byteOf_low l)
theorem pack_true (l : List Bool) : (packN l (nb (l.length + 1))).set (l.length / 8) (UInt8.ofNat (byteOf (l ++ [true]) (l.length / 8))) = pack (l ++ [true]) := by
  apply List.ext_getElem?
  intro i
  unfold pack
  rw [List.length_append, List.getElem?_set, packN_len]
  show (if l.length / 8 = i then if l.length / 8 < nb (l.length + 1) then _ else _ else _) = (packN _ (nb (l.length + 1)))[i]?
  split
  · rename_i e
    rw [if_pos (by unfold nb; omega), ← e, packN_get _ _ _ (by unfold nb; omega)]
  · rename_i e
    by_cases hi : i < nb (l.length + 1)
    · rw [packN_get _ _ _ hi, packN_get _ _ _ hi, byteOf_far l i (by omega)]
    · rw [List.getElem?_eq_none (by rw [packN_len]; omega), List.getElem?_eq_none (by rw [packN_len]; omega)]
theorem pack_false (l : List Bool) : packN l (nb (l.length + 1)) = pack (l ++ [false]) := by
  unfold pack packN
  rw [List.length_append]
  apply List.map_congr_left
  intro i _
  rw [byteOf_false]

/-! ### bytes as bits -/
/-- bit k of a byte, the highest first -/
def cb (c : UInt8) (k : Nat) : Bool := c.toNat / 2 ^ (7 - k) % 2 == 1
def rb (B : List UInt8) (i : Nat) : Bool := cb (B.getD (i / 8) 0) (i % 8)
def row (B : List UInt8) : List Bool := (List.range (8 * B.length)).map (rb B)
theorem row_len (B : List UInt8) : (row B).length = 8 * B.length := by simp [row]
theorem row_get (B : List UInt8) (i : Nat) (h : i < 8 * B.length) : (row B)[i]? = some (rb B i) := by simp [row, h]
theorem rb_pack (l : List Bool) (i : Nat) (h : i < 8 * nb l.length) : rb (pack l) i = l.getD i false := by
  unfold rb cb
  have hq : i / 8 < nb l.length := by omega
  rw [List.getD_eq_getElem?_getD]
  unfold pack
  rw [packN_get _ _ _ hq, Option.getD_some, byte_nat]
  have hi : i = 8 * (i / 8) + i % 8 := by omega
  have hlt : i % 8 < 8 := Nat.mod_lt _ (by decide)
  have e : byteOf l (i / 8) / 2 ^ (7 - i % 8) % 2 = btv l i := by
    generalize i / 8 = q at *
    generalize i % 8 = r at *
    have := bt_le l (8 * q); have := bt_le l (8 * q + 1); have := bt_le l (8 * q + 2); have := bt_le l (8 * q + 3)
    have := bt_le l (8 * q + 4); have := bt_le l (8 * q + 5); have := bt_le l (8 * q + 6); have := bt_le l (8 * q + 7)
    unfold byteOf
    have hc : r = 0 ∨ r = 1 ∨ r = 2 ∨ r = 3 ∨ r = 4 ∨ r = 5 ∨ r = 6 ∨ r = 7 := by omega
    rcases hc with rfl | rfl | rfl | rfl | rfl | rfl | rfl | rfl
    all_goals
      subst hi
      simp only [Nat.add_zero, Nat.reducePow, Nat.reduceSub]
      omega
  rw [e]
  unfold btv
  cases l.getD i false <;> rfl
theorem row_pack (l : List Bool) : row (pack l) = l ++ List.replicate (8 * nb l.length - l.length) false := by
  apply List.ext_getElem?
  intro i
  by_cases h : i < 8 * nb l.length
  · rw [row_get _ _ (by rw [pack_len]; exact h), rb_pack l i h]
    by_cases h' : i < l.length
    · rw [List.getElem?_append_left h', List.getD_eq_getElem?_getD, List.getElem?_eq_getElem h']; rfl
    · rw [List.getElem?_append_right (by omega), List.getD_eq_getElem?_getD, List.getElem?_eq_none (by omega), List.getElem?_replicate, if_pos (by omega)]; rfl
  · rw [List.getElem?_eq_none (by rw [row_len, pack_len]; omega), List.getElem?_eq_none (by simp [nb] at *; omega)]
/-- the reference's: a byte is doubled again and again -/
theorem cb_double : ∀ c, c < 256 → ∀ k, k < 8 → (decide (128 ≤ c * 2 ^ k % 256)) = (c / 2 ^ (7 - k) % 2 == 1) := by decide +kernel
/-- the program's: a mask -/
theorem cb_mask : ∀ c, c < 256 → ∀ k, k < 8 → (c &&& (128 / 2 ^ k) ≠ 0) = (c / 2 ^ (7 - k) % 2 = 1) := by
  have : ∀ c, c < 256 → ∀ k, k < 8 → ((c &&& (128 / 2 ^ k) ≠ 0) ↔ (c / 2 ^ (7 - k) % 2 = 1)) := by decide +kernel
  intro c hc k hk
  exact propext (this c hc k hk)

theorem rest_get (B : List UInt8) (n j : Nat) (h : n + j < 8 * B.length) : ((row B).drop n)[j]? = some (rb B (n + j)) := by rw [List.getElem?_drop, row_get _ _ h]
theorem rest_len (B : List UInt8) (n : Nat) : ((row B).drop n).length = 8 * B.length - n := by rw [List.length_drop, row_len]
theorem rest_take (B : List UInt8) (n j : Nat) (h : n + j < 8 * B.length) : ((row B).drop n).take (j + 1) = ((row B).drop n).take j ++ [rb B (n + j)] := by
  rw [List.take_add_one, rest_get B n j h]
  rfl

/-! ### numbers -/
def numB (x k : Nat) : List Bool := (List.range k).map fun i => x / 2 ^ (k - 1 - i) % 2 == 1
theorem numB_len (x k : Nat) : (numB x k).length = k := by simp [numB]
theorem numB_take (x k j : Nat) (h : j < k) : (numB x k).take (j + 1) = (numB x k).take j ++ [x / 2 ^ (k - 1 - j) % 2 == 1] := by
  rw [List.take_add_one]
  congr 1
  simp [numB, h]
theorem numB_succ (x k : Nat) : numB x (k + 1) = numB (x / 2) k ++ [x % 2 == 1] := by
  unfold numB
  rw [List.range_succ, List.map_append]
  congr 1
  · apply List.map_congr_left
    intro i hi
    have hi := List.mem_range.1 hi
    rw [Nat.div_div_eq_div_mul, show k + 1 - 1 - i = (k - 1 - i) + 1 by omega, Nat.pow_succ, Nat.mul_comm]
  · simp
/-- the number of a row of bits -/
def valFrom (x : Nat) (l : List Bool) : Nat := l.foldl (fun y b => 2 * y + b.toNat) x
def val (l : List Bool) : Nat := valFrom 0 l
theorem valFrom_snoc (x : Nat) (l : List Bool) (b : Bool) : valFrom x (l ++ [b]) = 2 * valFrom x l + b.toNat := by simp [valFrom]
theorem val_snoc (l : List Bool) (b : Bool) : val (l ++ [b]) = 2 * val l + b.toNat := valFrom_snoc 0 l b
theorem val_take (l : List Bool) (k : Nat) (h : k < l.length) : val (l.take (k + 1)) = 2 * val (l.take k) + l[k].toNat := by
  rw [List.take_add_one, List.getElem?_eq_getElem h]
  exact val_snoc _ _
theorem val_lt (l : List Bool) (n : Nat) (h : l.length ≤ n) : val l < 2 ^ n := by
  have : ∀ l : List Bool, val l.reverse < 2 ^ l.length := by
    intro l
    induction l with
    | nil => decide
    | cons b t ih =>
      rw [List.reverse_cons, val_snoc, List.length_cons, Nat.pow_succ]
      cases b <;> simp <;> omega
  have h1 := this l.reverse
  rw [List.reverse_reverse, List.length_reverse] at h1
  exact Nat.lt_of_lt_of_le h1 (Nat.pow_le_pow_right (by decide) h)
theorem val_numB (x k : Nat) : val (numB x k) = x % 2 ^ k := by
  induction k generalizing x with
  | zero => simp [numB, val, valFrom, Nat.mod_one]
  | succ k ih =>
    rw [numB_succ, val_snoc, ih, Nat.pow_succ]
    have e : (x % 2 == 1).toNat = x % 2 := by
      have : x % 2 = 0 ∨ x % 2 = 1 := by omega
      rcases this with h | h <;> rw [h] <;> rfl
    rw [e]
    have h2 := Nat.mod_mul_right_div_self x 2 (2 ^ k)
    have h3 : x % (2 * 2 ^ k) % 2 = x % 2 := Nat.mod_mul_right_mod x 2 (2 ^ k)
    rw [Nat.mul_comm (2 ^ k) 2]
    omega

/-- the first so many bits of a byte, as the reference gathers them -/
def hp (l : List Bool) (i : Nat) : Nat → Nat
  | 0 => 0
  | t + 1 => 2 * hp l i t + btv l (8 * i + t)
theorem hp8 (l : List Bool) (i : Nat) : hp l i 8 = byteOf l i := by
  simp only [hp, byteOf, Nat.add_zero]
  omega
theorem hp_lt (l : List Bool) (i : Nat) : ∀ t, hp l i t < 2 ^ t
  | 0 => by simp [hp]
  | t + 1 => by
    have := hp_lt l i t
    have := bt_le l (8 * i + t)
    simp only [hp, Nat.pow_succ]
    omega
theorem hp_256 (l : List Bool) (i t : Nat) (h : t ≤ 8) : hp l i t < 256 := Nat.lt_of_lt_of_le (hp_lt l i t) (Nat.pow_le_pow_right (by decide) h)
theorem packN_succ (l : List Bool) (m : Nat) : packN l (m + 1) = packN l m ++ [UInt8.ofNat (byteOf l m)] := by
  unfold packN
  rw [List.range_succ, List.map_append]
  rfl
theorem row_take (B : List UInt8) (j t : Nat) (hj : j < B.length) (ht : t < 8) : (row B).take (8 * j + t + 1) = (row B).take (8 * j + t) ++ [cb B[j] t] := by
  rw [List.take_add_one, row_get _ _ (by omega)]
  unfold rb
  rw [show (8 * j + t) / 8 = j by omega, show (8 * j + t) % 8 = t by omega, List.getD_eq_getElem?_getD, List.getElem?_eq_getElem hj]
  rfl
theorem cb_walk (c : UInt8) (t : Nat) (ht : t < 8) : decide ((128 : Int) ≤ ((c.toNat * 2 ^ t % 256 : Nat) : Int)) = cb c t := by
  have := cb_double c.toNat c.toNat_lt t ht
  unfold cb
  rw [← this]
  rw [Bool.eq_iff_iff, decide_eq_true_eq, decide_eq_true_eq]
  omega

/-! ### ones -/
/-- how many ones come first, of a row -/
def lead : List Bool → Nat
  | true :: l => lead l + 1
  | _ => 0
theorem lead_le : ∀ l : List Bool, lead l ≤ l.length
  | [] => Nat.le_refl _
  | true :: l => by simp only [lead, List.length_cons]; have := lead_le l; omega
  | false :: l => by simp [lead]
theorem lead_get : ∀ (l : List Bool) (i : Nat), i < lead l → l[i]? = some true
  | [], i, h => by simp [lead] at h
  | true :: l, 0, _ => rfl
  | true :: l, i + 1, h => by simp only [lead] at h; rw [List.getElem?_cons_succ]; exact lead_get l i (by omega)
  | false :: l, i, h => by simp [lead] at h
theorem lead_stop : ∀ (l : List Bool), lead l < l.length → l[lead l]? = some false
  | [], h => by simp [lead] at h
  | true :: l, h => by simp only [lead, List.length_cons] at *; rw [List.getElem?_cons_succ]; exact lead_stop l (by omega)
  | false :: l, _ => rfl
theorem lead_ones (n : Nat) (l : List Bool) : lead (List.replicate n true ++ false :: l) = n := by
  induction n with
  | zero => rfl
  | succ n ih => simp [List.replicate_succ, lead, ih]
/-- how many ones come ahead of the first nought; -1: there is no nought -/
def ones (l : List Bool) : Int := if lead l < l.length then (lead l : Int) else -1
end Go.Proofs.Ytgncngpgodfijaa.Bits
