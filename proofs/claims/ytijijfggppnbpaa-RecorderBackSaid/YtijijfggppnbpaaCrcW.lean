/-
  The walks of package crc, and of its reference: what each function computes, in the words of the plain law.
-/
import Derived.Test.YtijijfggppnbpaaRows
import Derived.Test.YtijijfggppnbpaaBase
import Derived.Test.YtijijfggppnbpaaCrcP
import Derived.Laws.BitsAllLaws
namespace Go.Proofs.Ytijijfggppnbpaa
open Go.RowKit
namespace Crc

/-- a word as a value's number -/
abbrev u (x : BitVec 32) : Int := (x.toNat : Int)
theorem u_lt (x : BitVec 32) : u x < 4294967296 := by have := x.isLt; unfold u; omega
theorem u_ge (x : BitVec 32) : 0 ≤ u x := by unfold u; omega

theorem xor_u (x y : BitVec 32) : Go.bits .xor .u32 (u x) (u y) = u (x ^^^ y) := by
  have := u32_xor_nat x.toNat y.toNat x.isLt y.isLt
  unfold u
  rw [this, BitVec.toNat_xor]
theorem and_u (x y : BitVec 32) : Go.bits .and .u32 (u x) (u y) = u (x &&& y) := by
  have := u32_and_nat x.toNat y.toNat x.isLt y.isLt
  unfold u
  rw [this, BitVec.toNat_and]

theorem u_one : (1 : Int) = u 1#32 := rfl
theorem u_half (y : BitVec 32) : (u y) / (2 : Int) = u (y >>> 1) := by
  unfold u
  rw [BitVec.toNat_ushiftRight, Nat.shiftRight_eq_div_pow]
  omega
theorem and_one (y : BitVec 32) : y &&& 1#32 = bw (y.getLsbD 0) := by
  apply BitVec.eq_of_toNat_eq
  have h : y.getLsbD 0 = decide (y.toNat % 2 = 1) := by
    rw [BitVec.getLsbD, Nat.testBit_zero]
  rw [BitVec.toNat_and, h]
  have h1 : y.toNat &&& (1#32).toNat = y.toNat % 2 := Nat.and_two_pow_sub_one_eq_mod y.toNat 1
  rw [h1]
  by_cases h2 : y.toNat % 2 = 1
  · rw [h2]; rfl
  · have h3 : y.toNat % 2 = 0 := by omega
    rw [h3]; rfl
theorem poly_u : (3988292384 : Int) = u poly := rfl
/-- eight bits at a time, as the program has it -/
theorem step_walk (y : BitVec 32) : Go.bits .xor .u32 (u y / 2) (Go.bits .and .u32 3988292384 (-Go.bits .and .u32 (u y) 1 % 4294967296)) = u (step1 y) := by
  rw [u_one, and_u, and_one, u_half, poly_u]
  unfold step1
  cases y.getLsbD 0
  · have e : -u (bw false) % 4294967296 = u 0#32 := by decide
    rw [e, and_u, xor_u]
    simp
  · have e : -u (bw true) % 4294967296 = u (ones) := by decide
    rw [e, and_u, xor_u]
    rw [show poly &&& ones = poly from BitVec.and_allOnes]
    rfl

set_option maxHeartbeats 400000 in
theorem byteStep_any (x : BitVec 32) (w : World) :
    Calls Try.prog 74 #[.int .u32 (u x)] w fun e w' => e = .returned (.int .u32 (u (byteStep x))) ∧ w = w' := by
  go_enter Try.func74, Try.ntmps74
  go_wp2
  go_loop [0, 4] (fun r i => ∃ k : Nat, k ≤ 8 ∧ i = .int .i64 k ∧ r = .int .u32 (u (steps k x))) (fun _ i => 8 - (intOf i).toNat)
  case atStart => exact ⟨0, by omega, rfl, rfl⟩
  case round =>
    obtain ⟨k, hk, rfl, rfl⟩ := hrel
    by_cases hlt : k < 8
    · generalize hy : steps k x = y at *
      have hs : steps (k + 1) x = step1 y := by rw [← hy]; rfl
      have Hs := Lib.hid hs; clear hs hy
      go_wp2
      go_round
      case rel => exact ⟨k + 1, by omega, by go_num, by rw [step_walk, Hs.out]⟩
      case measure => simp [intOf]; omega
    · obtain rfl : k = 8 := by omega
      go_wp2
      go_ret
      exact ⟨rfl, rfl⟩

theorem cw_u (c : UInt8) : (c.toNat : Int) = u (cw c) := by
  unfold u cw
  have := c.toNat_lt
  rw [BitVec.toNat_ofNat, Nat.mod_eq_of_lt (by omega)]

/-- the slice reads as the bytes l -/
def Bytes (w : World) (A : Option Addr) (l : List UInt8) : Prop :=
  l = [] ∨ ∃ b off, A = some ⟨b, off, none⟩ ∧ b < w.heap.size ∧ ∀ i (h : i < l.length), w.cell? ⟨b, off + i, none⟩ = some (.int .u8 (l[i].toNat : Int))
theorem Bytes.below {w w' : World} {A : Option Addr} {l : List UInt8} {B : Nat} (h : Bytes w A l) (hb : Below B w w') (hB : w.heap.size ≤ B) : Bytes w' A l := by
  rcases h with h | ⟨b, off, e, hl, hc⟩
  · exact .inl h
  · exact .inr ⟨b, off, e, Nat.lt_of_lt_of_le hl hb.size, fun i hi => by rw [hb.cell (p := ⟨b, off + i, none⟩) (by dsimp only; omega)]; exact hc i hi⟩

theorem reg_snoc (r : BitVec 32) (l : List UInt8) (k : Nat) (h : k < l.length) : reg r (l.take (k + 1)) = byteStep (reg r (l.take k) ^^^ cw l[k]) := by
  rw [List.take_succ_eq_append_getElem h, reg_append]; rfl

set_option maxHeartbeats 400000 in
theorem sum_any (A : Option Addr) (l : List UInt8) (cap : Nat) (w : World) (hA : Bytes w A l) (hl : l.length ≤ maxLen) :
    Calls Try.prog 69 #[.slice A l.length cap] w fun e w' => e = .returned (.int .u32 (u (sum l))) ∧ w = w' := by
  unfold maxLen at hl
  go_enter Try.func69, Try.ntmps69
  go_wp2
  go_loop [3, 8] (fun r i => ∃ k : Nat, k ≤ l.length ∧ i = .int .i64 k ∧ r = .int .u32 (u (reg (ones) (l.take k)))) (fun _ i => l.length - (intOf i).toNat)
  case atStart => exact ⟨0, by omega, rfl, rfl⟩
  case round =>
    obtain ⟨k, hk, rfl, rfl⟩ := hrel
    by_cases hlt : k < l.length
    · rcases hA with rfl | ⟨b, off, rfl, hb, hc⟩
      · simp at hlt
      have c0 := hc k hlt
      have hs := reg_snoc (ones) l k hlt
      generalize reg (ones) (l.take k) = y at *
      have Hs := Lib.hid hs; clear hs hc
      rw [cw_u] at c0
      have hm : u (cw l[k]) % 4294967296 = u (cw l[k]) := Int.emod_eq_of_lt (u_ge _) (u_lt _)
      have hx := xor_u y (cw l[k])
      go_wp2_with (go_at_call 74; refine (byteStep_any _ _).mono ?_; rintro e w' ⟨rfl, rfl⟩)
      go_round
      case rel => exact ⟨k + 1, by omega, by go_num, by rw [Hs.out]⟩
      case measure => simp [intOf]; omega
    · obtain rfl : k = l.length := by omega
      rw [List.take_length]
      have hk1 : IntKind.u32.signed = false := rfl
      have hk2 : IntKind.u32.max = 4294967295 := rfl
      have hx : Go.bits .xor .u32 4294967295 (u (reg ones l)) = u (sum l) := by
        have := xor_u ones (reg ones l)
        rw [ones_xor] at this
        exact this
      go_wp2
      go_ret
      exact ⟨rfl, rfl⟩
end Crc
end Go.Proofs.Ytijijfggppnbpaa
