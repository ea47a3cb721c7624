/-
  The plain law of package recorder: cells of bytes in a ring, what is read of one, what stands there. No program in sight.
-/
import Derived.Test.YtijijfggppnbpaaFrmP
namespace Go.Proofs.Ytijijfggppnbpaa
set_option linter.unusedVariables false
namespace Rec
open Frm Txt
/-- a number and a frame, ahead of the noughts -/
def preC (n : Nat) (f : Fr) : List UInt8 := leB n 8 ++ leB (bytesF f).length 1 ++ bytesF f
def bodyC (n : Nat) (f : Fr) : List UInt8 := preC n f ++ List.replicate (36 - (preC n f).length) 0
/-- a cell -/
def cellL (n : Nat) (f : Fr) : List UInt8 := Crc.put (bodyC n f)
theorem preC_len {n : Nat} {f : Fr} (hf : f.Ok) (h0 : codeF f = 0) : (preC n f).length = 9 + (bytesF f).length ∧ 12 ≤ (bytesF f).length ∧ (bytesF f).length ≤ 24 := by
  obtain ⟨_, k, _, hk, he⟩ := first_bytes f hf h0
  unfold preC
  rw [List.length_append, List.length_append, leB_len, leB_len]
  omega
theorem bodyC_len {n : Nat} {f : Fr} (hf : f.Ok) (h0 : codeF f = 0) : (bodyC n f).length = 36 := by
  obtain ⟨h1, h2, h3⟩ := preC_len (n := n) hf h0
  unfold bodyC
  rw [List.length_append, List.length_replicate]
  omega
theorem cellL_eq (n : Nat) (f : Fr) : cellL n f = bodyC n f ++ Crc.le4 (Crc.sum (bodyC n f)) := rfl
theorem cellL_len {n : Nat} {f : Fr} (hf : f.Ok) (h0 : codeF f = 0) : (cellL n f).length = 40 := by
  rw [cellL_eq, List.length_append, bodyC_len hf h0]
  rfl
/-- what is read of a cell -/
def readL (c : List UInt8) : Nat × Fr × Bool :=
  if Crc.get (c.take 36) (c.drop 36) = false then (0, zeroF, false)
  else if leVal c 0 8 = 0 ∨ 27 < (c.getD 8 0).toNat then (0, zeroF, false)
  else if (firstL (((c.take 36).drop 9).take (c.getD 8 0).toNat)).2.2 ≠ 0 ∨ (firstL (((c.take 36).drop 9).take (c.getD 8 0).toNat)).2.1 ≠ (c.getD 8 0).toNat then (0, zeroF, false)
  else if ((c.take 36).drop (9 + (c.getD 8 0).toNat)).all (· == 0) = false then (0, zeroF, false)
  else (leVal c 0 8, (firstL (((c.take 36).drop 9).take (c.getD 8 0).toNat)).1, true)
theorem take_cell {n : Nat} {f : Fr} (hf : f.Ok) (h0 : codeF f = 0) : (cellL n f).take 36 = bodyC n f ∧ (cellL n f).drop 36 = Crc.le4 (Crc.sum (bodyC n f)) := by
  have hl := bodyC_len (n := n) hf h0
  rw [cellL_eq]
  exact ⟨by rw [List.take_append_of_le_length (by omega), List.take_of_length_le (by omega)], by rw [List.drop_append_of_le_length (by omega), List.drop_of_length_le (by omega), List.nil_append]⟩
/-- what was written is read -/
theorem read_cell {n : Nat} {f : Fr} (hf : f.Ok) (h0 : codeF f = 0) (hn : 0 < n) (hn2 : n < 18446744073709551616) : readL (cellL n f) = (n, f, true) := by
  obtain ⟨p1, p2, p3⟩ := preC_len (n := n) hf h0
  obtain ⟨t1, t2⟩ := take_cell (n := n) hf h0
  obtain ⟨hfb, _⟩ := first_bytes f hf h0
  obtain ⟨z, hz⟩ : ∃ z, z = (bytesF f).length := ⟨_, rfl⟩
  have hz8 : leB z 1 = [UInt8.ofNat z] := by simp [leB]
  have e1 : leVal (cellL n f) 0 8 = n := by
    rw [cellL_eq]
    unfold bodyC preC
    rw [List.append_assoc, List.append_assoc, List.append_assoc, leVal_leB]
    exact Nat.mod_eq_of_lt (by simpa using hn2)
  have e2 : ((cellL n f).getD 8 0).toNat = z := by
    have h8 : (leB n 8).length = 8 := leB_len _ _
    rw [cellL_eq]
    unfold bodyC preC
    rw [List.append_assoc, List.append_assoc, List.append_assoc, ← hz, hz8, List.getD_eq_getElem?_getD, List.getElem?_append_right (by omega), h8, Nat.sub_self]
    simp
    omega
  have e3 : (bodyC n f).drop 9 = bytesF f ++ List.replicate (36 - (preC n f).length) 0 := by
    have h9 : (leB n 8 ++ leB (bytesF f).length 1).length = 9 := by rw [List.length_append, leB_len, leB_len]
    unfold bodyC preC
    rw [List.append_assoc, List.drop_append_of_le_length (by omega), List.drop_of_length_le (by omega), List.nil_append]
  have e4 : ((bodyC n f).drop 9).take z = bytesF f := by
    rw [e3, List.take_append_of_le_length (by omega), List.take_of_length_le (by omega)]
  have e5 : (bodyC n f).drop (9 + z) = List.replicate (36 - (preC n f).length) 0 := by
    rw [← List.drop_drop, e3, List.drop_append_of_le_length (by omega), List.drop_of_length_le (by omega), List.nil_append]
  unfold readL
  rw [t1, t2, e1, e2, e4, hfb, if_neg (by unfold Crc.get; simp), if_neg (by omega), if_neg (by simp [hz]), e5, if_neg (by simp)]
theorem get_changed {a t : List UInt8} {x y : List UInt8} {c c' : UInt8} {b : List UInt8} (he : a ++ t = x ++ c' :: y) (h0 : b ++ Crc.le4 (Crc.sum b) = x ++ c :: y) (hc : c ≠ c') : Crc.get a t = false := by
  unfold Crc.get
  rw [beq_eq_false_iff_ne]
  intro e
  have h1 := (Crc.good_iff a (Crc.sum a)).1 rfl
  have h2 := (Crc.good_iff b (Crc.sum b)).1 rfl
  rw [← e, he] at h1
  rw [h0] at h2
  have key : ∀ (z : UInt8), Crc.reg Crc.ones (x ++ z :: y) = Crc.reg (Crc.byteStep (Crc.reg Crc.ones x ^^^ Crc.cw z)) y := fun z => by
    rw [Crc.reg_append]
    rfl
  rw [key] at h1 h2
  have e2 : Crc.byteStep (Crc.reg Crc.ones x ^^^ Crc.cw c') = Crc.byteStep (Crc.reg Crc.ones x ^^^ Crc.cw c) ^^^ Crc.byteStep (Crc.cw c ^^^ Crc.cw c') := by
    unfold Crc.byteStep
    rw [← Crc.steps_lin]
    congr 1
    rw [BitVec.xor_assoc, ← BitVec.xor_assoc (Crc.cw c), BitVec.xor_self, BitVec.zero_xor]
  rw [e2, Crc.reg_lin, h2] at h1
  have h3 : Crc.steps (8 * y.length) (Crc.byteStep (Crc.cw c ^^^ Crc.cw c')) = 0#32 := by
    have := congrArg (fun v => Crc.steps 32 Crc.ones ^^^ v) h1
    simp only [BitVec.xor_self] at this
    rw [← BitVec.xor_assoc, BitVec.xor_self, BitVec.zero_xor] at this
    exact this
  have h4 := Crc.steps_inj _ h3
  unfold Crc.byteStep at h4
  have h5 := Crc.steps_inj _ h4
  have h6 : Crc.cw c = Crc.cw c' := by
    have := congrArg (fun v => v ^^^ Crc.cw c') h5
    simp only [BitVec.xor_assoc, BitVec.xor_self, BitVec.xor_zero, BitVec.zero_xor] at this
    exact this
  refine hc ?_
  have h7 := congrArg BitVec.toNat h6
  unfold Crc.cw at h7
  rw [BitVec.toNat_ofNat, BitVec.toNat_ofNat] at h7
  have l1 := c.toNat_lt
  have l2 := c'.toNat_lt
  rw [Nat.mod_eq_of_lt (by omega), Nat.mod_eq_of_lt (by omega)] at h7
  exact UInt8.toNat_inj.1 h7
/-- a cell of which one byte is changed is lost -/
theorem read_lost {n : Nat} {f : Fr} (hf : f.Ok) (h0 : codeF f = 0) {i : Nat} {c' : UInt8} (hi : i < 40) (hc : (cellL n f).getD i 0 ≠ c') : (readL ((cellL n f).set i c')).2.2 = false := by
  have hl := cellL_len (n := n) hf h0
  have hg : Crc.get (((cellL n f).set i c').take 36) (((cellL n f).set i c').drop 36) = false := by
    refine get_changed (x := (cellL n f).take i) (y := (cellL n f).drop (i + 1)) (c := (cellL n f).getD i 0) (c' := c') (b := bodyC n f) ?_ ?_ hc
    · rw [List.take_append_drop, List.set_eq_take_append_cons_drop, if_pos (by omega)]
    · rw [← cellL_eq]
      have : (cellL n f).getD i 0 = (cellL n f)[i]'(by omega) := by rw [List.getD_eq_getElem?_getD, List.getElem?_eq_getElem (by omega)]; rfl
      rw [this, List.getElem_cons_drop, List.take_append_drop]
  unfold readL
  rw [if_pos hg]
/-- an empty cell, whole or changed at one place, has nothing -/
theorem read_empty : ∀ (i : Fin 40) (b : Bool), (readL ((List.replicate 40 (0 : UInt8)).set i.1 (if b then 1 else 0))).2.2 = false := by decide +kernel
theorem read_zero : (readL (List.replicate 40 (0 : UInt8))).2.2 = false := by decide +kernel
/-- a cell laid into the ring -/
def putB (B : List UInt8) (i : Nat) (c : List UInt8) : List UInt8 := B.take (40 * i) ++ (c ++ B.drop (40 * i + 40))
def chunk (B : List UInt8) (i : Nat) : List UInt8 := (B.drop (40 * i)).take 40
section
variable {B c : List UInt8} {i j k : Nat}
theorem putB_len (hB : B.length = 40 * k) (hi : i < k) (hc : c.length = 40) : (putB B i c).length = 40 * k := by
  unfold putB
  rw [List.length_append, List.length_append, List.length_take, List.length_drop, hc, hB]
  omega
theorem chunk_len (hB : B.length = 40 * k) (hi : i < k) : (chunk B i).length = 40 := by
  unfold chunk
  rw [List.length_take, List.length_drop, hB]
  omega
theorem chunk_get {a : Nat} (ha : a < 40) : (chunk B i)[a]? = B[40 * i + a]? := by
  unfold chunk
  rw [List.getElem?_take_of_lt ha, List.getElem?_drop]
theorem put_get (hB : B.length = 40 * k) (hi : i < k) (hc : c.length = 40) (p : Nat) : (putB B i c)[p]? = if 40 * i ≤ p ∧ p < 40 * i + 40 then c[p - 40 * i]? else B[p]? := by
  have ht : (B.take (40 * i)).length = 40 * i := by rw [List.length_take, hB]; omega
  unfold putB
  rcases Nat.lt_or_ge p (40 * i) with h | h
  · rw [List.getElem?_append_left (by omega), List.getElem?_take_of_lt h, if_neg (by omega)]
  · rcases Nat.lt_or_ge p (40 * i + 40) with h' | h'
    · rw [List.getElem?_append_right (by omega), ht, List.getElem?_append_left (by omega), if_pos ⟨h, h'⟩]
    · rw [List.getElem?_append_right (by omega), ht, List.getElem?_append_right (by omega), List.getElem?_drop, if_neg (by omega)]
      congr 1
      omega
theorem chunk_put (hB : B.length = 40 * k) (hi : i < k) (hj : j < k) (hc : c.length = 40) : chunk (putB B i c) j = if i = j then c else chunk B j := by
  have hl := putB_len hB hi hc
  refine List.ext_getElem? fun a => ?_
  by_cases ha : a < 40
  · rw [chunk_get ha, put_get hB hi hc]
    by_cases hij : i = j
    · subst hij
      rw [if_pos (by omega), if_pos rfl]
      congr 1
      omega
    · rw [if_neg (by omega), if_neg hij, chunk_get ha]
  · rw [List.getElem?_eq_none (by rw [chunk_len hl hj]; omega)]
    split
    · rw [List.getElem?_eq_none (by omega)]
    · rw [List.getElem?_eq_none (by rw [chunk_len hB hj]; omega)]
end
end Rec
end Go.Proofs.Ytijijfggppnbpaa
