/-
  The plain law of sums of 32 bits: one bit at a time, eight bits at a time, linear, injective; joined; a burst is told. No program in sight.
-/
namespace Go.Proofs.Ytijijfggppnbpaa.Crc

def poly : BitVec 32 := 3988292384#32
/-- one bit on -/
def step1 (r : BitVec 32) : BitVec 32 := (r >>> 1) ^^^ (if r.getLsbD 0 then poly else 0#32)
/-- so many bits on -/
def steps : Nat → BitVec 32 → BitVec 32
  | 0, r => r
  | n + 1, r => step1 (steps n r)

theorem step1_lin (x y : BitVec 32) : step1 (x ^^^ y) = step1 x ^^^ step1 y := by
  unfold step1
  rw [BitVec.getLsbD_xor, BitVec.ushiftRight_xor_distrib]
  cases x.getLsbD 0 <;> cases y.getLsbD 0 <;> simp [BitVec.xor_assoc]
  · rw [BitVec.xor_comm poly]
  · rw [← BitVec.xor_assoc poly, BitVec.xor_comm poly, BitVec.xor_assoc (y >>> 1), BitVec.xor_self, BitVec.xor_zero]
theorem step1_zero : step1 0#32 = 0#32 := by decide
theorem steps_lin (n : Nat) (x y : BitVec 32) : steps n (x ^^^ y) = steps n x ^^^ steps n y := by
  induction n with
  | zero => rfl
  | succ n ih => rw [steps, ih, step1_lin]; rfl
theorem steps_zero (n : Nat) : steps n 0#32 = 0#32 := by
  induction n with
  | zero => rfl
  | succ n ih => rw [steps, ih, step1_zero]
theorem steps_add (m n : Nat) (x : BitVec 32) : steps (m + n) x = steps m (steps n x) := by
  induction m with
  | zero => rw [Nat.zero_add]; rfl
  | succ m ih => rw [Nat.succ_add, steps, ih]; rfl
theorem step1_inj {x : BitVec 32} (h : step1 x = 0#32) : x = 0#32 := by
  have h31 : (step1 x).getLsbD 31 = x.getLsbD 0 := by
    unfold step1
    rw [BitVec.getLsbD_xor, BitVec.getLsbD_ushiftRight]
    have h32 : x.getLsbD (1 + 31) = false := BitVec.getLsbD_of_ge _ _ (by decide)
    rw [h32]
    cases x.getLsbD 0
    · simp
    · simp only [if_true, Bool.false_xor]; decide
  have h0 : x.getLsbD 0 = false := by rw [← h31, h]; simp
  have hs : x >>> 1 = 0#32 := by
    have := h
    unfold step1 at this
    rw [h0] at this
    simpa using this
  apply BitVec.eq_of_getLsbD_eq
  intro i hi
  rcases i with _ | i
  · rw [h0]; simp
  · have := congrArg (fun v => v.getLsbD i) hs
    simp only [BitVec.getLsbD_ushiftRight, BitVec.getLsbD_zero] at this
    rw [Nat.add_comm] at this
    rw [this]; simp
theorem steps_inj (n : Nat) {x : BitVec 32} (h : steps n x = 0#32) : x = 0#32 := by
  induction n with
  | zero => exact h
  | succ n ih => exact ih (step1_inj h)

/-- a bit as a word -/
def bw (b : Bool) : BitVec 32 := if b then 1#32 else 0#32
/-- one bit of a text taken in -/
def bstep (r : BitVec 32) (b : Bool) : BitVec 32 := step1 (r ^^^ bw b)
/-- the first n bits of a word, the lowest first -/
def lows (v : BitVec 32) (n : Nat) : List Bool := (List.range n).map fun i => v.getLsbD i

theorem lows_succ (v : BitVec 32) (n : Nat) : lows v (n + 1) = lows v n ++ [v.getLsbD n] := by simp [lows, List.range_succ]
theorem step1_shift (v : BitVec 32) (n : Nat) : step1 ((v >>> n) ^^^ bw (v.getLsbD n)) = v >>> (n + 1) := by
  have h0 : (((v >>> n) ^^^ bw (v.getLsbD n))).getLsbD 0 = false := by
    rw [BitVec.getLsbD_xor, BitVec.getLsbD_ushiftRight, Nat.add_zero]
    cases v.getLsbD n <;> decide
  unfold step1
  rw [h0, BitVec.ushiftRight_xor_distrib]
  have : bw (v.getLsbD n) >>> 1 = 0#32 := by cases v.getLsbD n <;> decide
  rw [this]
  simp [BitVec.shiftRight_add]
theorem fold_lows (r v : BitVec 32) (n : Nat) : (lows v n).foldl bstep r = steps n (r ^^^ v) ^^^ (v >>> n) := by
  induction n with
  | zero => simp [lows, steps, BitVec.xor_assoc]
  | succ n ih =>
    rw [lows_succ, List.foldl_append, ih]
    show step1 (steps n (r ^^^ v) ^^^ v >>> n ^^^ bw (v.getLsbD n)) = _
    rw [BitVec.xor_assoc, step1_lin, step1_shift]
    rfl

/-- a byte as a word -/
def cw (c : UInt8) : BitVec 32 := BitVec.ofNat 32 c.toNat
theorem cw_shift (c : UInt8) : cw c >>> 8 = 0#32 := by
  apply BitVec.eq_of_toNat_eq
  have := c.toNat_lt
  simp [cw, BitVec.toNat_ushiftRight, Nat.shiftRight_eq_div_pow]
  omega
def ones : BitVec 32 := BitVec.allOnes 32
theorem ones_xor (x : BitVec 32) : ones ^^^ x = ~~~ x := BitVec.allOnes_xor
theorem xor_ones (x : BitVec 32) : x ^^^ ones = ~~~ x := BitVec.xor_allOnes
def byteStep (r : BitVec 32) : BitVec 32 := steps 8 r
/-- a byte taken in -/
def cstep (r : BitVec 32) (c : UInt8) : BitVec 32 := byteStep (r ^^^ cw c)
theorem cstep_lows (r : BitVec 32) (c : UInt8) : (lows (cw c) 8).foldl bstep r = cstep r c := by
  rw [fold_lows, cw_shift, BitVec.xor_zero]; rfl
/-- what the register is behind a text -/
def reg (r : BitVec 32) (l : List UInt8) : BitVec 32 := l.foldl cstep r
def sum (l : List UInt8) : BitVec 32 := ~~~ (reg (ones) l)

theorem reg_append (r : BitVec 32) (a b : List UInt8) : reg r (a ++ b) = reg (reg r a) b := by simp [reg]
theorem cstep_lin (r s : BitVec 32) (c : UInt8) : cstep (r ^^^ s) c = cstep r c ^^^ byteStep s := by
  unfold cstep byteStep
  rw [← steps_lin]
  congr 1
  rw [BitVec.xor_assoc, BitVec.xor_comm s, BitVec.xor_assoc]
theorem reg_lin (r s : BitVec 32) (l : List UInt8) : reg (r ^^^ s) l = reg r l ^^^ steps (8 * l.length) s := by
  induction l generalizing r s with
  | nil => rfl
  | cons c l ih =>
    show reg (cstep (r ^^^ s) c) l = reg (cstep r c) l ^^^ _
    rw [cstep_lin, ih]
    congr 1
    unfold byteStep
    rw [← steps_add]
    congr 1

/-- so many noughts behind -/
def shift (x : BitVec 32) (n : Nat) : BitVec 32 := steps (8 * n) x
theorem shift_shift (x : BitVec 32) (m n : Nat) : shift (shift x m) n = shift x (m + n) := by
  unfold shift
  rw [← steps_add]
  congr 1
  omega
theorem sum_append (a b : List UInt8) : sum (a ++ b) = shift (sum a) b.length ^^^ sum b := by
  unfold sum shift
  rw [reg_append]
  generalize hra : reg (ones) a = ra
  have e : ra = ones ^^^ ~~~ ra := by rw [ones_xor, BitVec.not_not]
  have h : reg ra b = reg (ones) b ^^^ steps (8 * b.length) (~~~ ra) := by
    conv => lhs; rw [e]
    exact reg_lin _ _ _
  rw [h, BitVec.xor_comm (steps _ _), BitVec.not_xor_left]

theorem shift_zero (x : BitVec 32) : shift x 0 = x := rfl

/-! ### the four bytes of a sum; what has its sum behind -/
def byteAt (s : BitVec 32) (i : Nat) : UInt8 := UInt8.ofNat (s.toNat / 2 ^ (8 * i))
def le4 (s : BitVec 32) : List UInt8 := [byteAt s 0, byteAt s 1, byteAt s 2, byteAt s 3]
/-- all bits of a text, the lowest of each byte first -/
def bits (l : List UInt8) : List Bool := l.flatMap fun c => lows (cw c) 8
theorem reg_bits (r : BitVec 32) (l : List UInt8) : reg r l = (bits l).foldl bstep r := by
  induction l generalizing r with
  | nil => rfl
  | cons c l ih =>
    show reg (cstep r c) l = (lows (cw c) 8 ++ bits l).foldl bstep r
    rw [ih, List.foldl_append, cstep_lows]
theorem cw_bit (c : UInt8) (j : Nat) : (cw c).getLsbD j = c.toNat.testBit j := by
  unfold cw
  rw [BitVec.getLsbD_ofNat]
  by_cases h : j < 32
  · simp [h]
  · have hc := c.toNat_lt
    have : c.toNat.testBit j = false := Nat.testBit_lt_two_pow (Nat.lt_of_lt_of_le hc (Nat.pow_le_pow_right (n := 2) (by decide) (show 8 ≤ j by omega)))
    rw [this]; simp
theorem byteAt_bit (s : BitVec 32) (i j : Nat) (hj : j < 8) : (cw (byteAt s i)).getLsbD j = s.getLsbD (8 * i + j) := by
  rw [cw_bit]
  unfold byteAt
  rw [UInt8.toNat_ofNat', show (2 : Nat) ^ 8 = 2 ^ 8 from rfl, Nat.testBit_mod_two_pow, Nat.testBit_div_two_pow]
  simp [hj, BitVec.getLsbD, Nat.add_comm]
theorem bits_le4 (s : BitVec 32) : bits (le4 s) = lows s 32 := by
  have hb : ∀ i, lows (cw (byteAt s i)) 8 = (List.range 8).map fun j => s.getLsbD (8 * i + j) := by
    intro i
    unfold lows
    apply List.map_congr_left
    intro j hj
    exact byteAt_bit s i j (List.mem_range.1 hj)
  unfold bits le4
  simp only [List.flatMap_cons, List.flatMap_nil, hb]
  simp [lows, List.range_succ]
/-- what the register is behind a text with a word behind -/
theorem reg_le4 (r s : BitVec 32) : reg r (le4 s) = steps 32 (r ^^^ s) := by
  rw [reg_bits, bits_le4, fold_lows]
  have : s >>> 32 = 0#32 := by
    apply BitVec.eq_of_toNat_eq
    rw [BitVec.toNat_ushiftRight, Nat.shiftRight_eq_div_pow]
    simp [Nat.div_eq_of_lt s.isLt]
  rw [this, BitVec.xor_zero]
theorem steps_cancel {n : Nat} {x y : BitVec 32} (h : steps n x = steps n y) : x = y := by
  have h0 : steps n (x ^^^ y) = 0#32 := by rw [steps_lin, h, BitVec.xor_self]
  have := steps_inj n h0
  exact BitVec.xor_eq_zero_iff.1 this
/-- a text has its sum behind just if the register comes to one word -/
theorem good_iff (l : List UInt8) (s : BitVec 32) : s = sum l ↔ reg (ones) (l ++ le4 s) = steps 32 (ones) := by
  rw [reg_append, reg_le4]
  unfold sum
  generalize reg (ones) l = r
  constructor
  · rintro rfl
    congr 1
    rw [← xor_ones, ← BitVec.xor_assoc, BitVec.xor_self, BitVec.zero_xor]
  · intro h
    have h' := steps_cancel h
    rw [← xor_ones, ← h', ← BitVec.xor_assoc, BitVec.xor_self, BitVec.zero_xor]

/-! ### bits turned -/
theorem fold_xor (r s : BitVec 32) (a b : List Bool) (h : a.length = b.length) : (List.zipWith xor a b).foldl bstep (r ^^^ s) = a.foldl bstep r ^^^ b.foldl bstep s := by
  induction a generalizing r s b with
  | nil => cases b with | nil => rfl | cons _ _ => simp at h
  | cons x a ih =>
    cases b with
    | nil => simp at h
    | cons y b =>
      simp only [List.zipWith_cons_cons, List.foldl_cons]
      rw [← ih _ _ _ (by simpa using h)]
      congr 1
      unfold bstep
      rw [← step1_lin]
      congr 1
      cases x <;> cases y <;> simp [bw, BitVec.xor_assoc]
      · rw [BitVec.xor_comm s]
      · rw [BitVec.xor_comm s, ← BitVec.xor_assoc 1#32, BitVec.xor_self, BitVec.zero_xor]
theorem fold_noughts (r : BitVec 32) (n : Nat) : (List.replicate n false).foldl bstep r = steps n r := by
  induction n generalizing r with
  | zero => rfl
  | succ n ih =>
    rw [List.replicate_succ, List.foldl_cons, ih]
    unfold bstep bw
    simp only [Bool.false_eq_true, if_false, BitVec.xor_zero]
    rw [show n + 1 = n + 1 from rfl, steps_add n 1]
    rfl
/-- a burst: so many noughts, 32 bits that are not all nought, noughts: the register is not nought -/
theorem burst (m : BitVec 32) (hm : m ≠ 0#32) (p q : Nat) : (List.replicate p false ++ lows m 32 ++ List.replicate q false).foldl bstep 0#32 ≠ 0#32 := by
  rw [List.foldl_append, List.foldl_append, fold_noughts, fold_noughts, steps_zero, fold_lows]
  have : m >>> 32 = 0#32 := by
    apply BitVec.eq_of_toNat_eq
    rw [BitVec.toNat_ushiftRight, Nat.shiftRight_eq_div_pow]
    simp [Nat.div_eq_of_lt m.isLt]
  rw [this, BitVec.xor_zero, BitVec.zero_xor, ← steps_add]
  intro h
  exact hm (steps_inj _ h)

end Go.Proofs.Ytijijfggppnbpaa.Crc
