/-
  The walk of the reference's sum.
-/
import Derived.Test.YtijijfggppnbpaaCrcW
namespace Go.Proofs.Ytijijfggppnbpaa
open Go.RowKit
namespace Crc

theorem bstep_eq (z : BitVec 32) (b : Bool) : bstep z b = (z >>> 1) ^^^ (if (z.getLsbD 0 != b) then poly else 0#32) := by
  unfold bstep step1
  rw [BitVec.getLsbD_xor, BitVec.ushiftRight_xor_distrib]
  have h1 : bw b >>> 1 = 0#32 := by cases b <;> decide
  have h2 : (bw b).getLsbD 0 = b := by cases b <;> decide
  rw [h1, h2, BitVec.xor_zero]
theorem u_odd (z : BitVec 32) : (u z % 2 == 1) = z.getLsbD 0 := by
  rw [BitVec.getLsbD, Nat.testBit_zero, Bool.eq_iff_iff]
  simp [u]
  omega
theorem bit_odd (c : BitVec 32) (k : Nat) : (u c / 2 ^ k % 2 == 1) = c.getLsbD k := by
  rw [BitVec.getLsbD, Nat.testBit_eq_decide_div_mod_eq, Bool.eq_iff_iff]
  simp [u]
  have : (c.toNat : Int) / 2 ^ k = ((c.toNat / 2 ^ k : Nat) : Int) := by simp
  rw [this]
  omega
theorem lows_fold (v r : BitVec 32) (k : Nat) : (lows v (k + 1)).foldl bstep r = bstep ((lows v k).foldl bstep r) (v.getLsbD k) := by
  rw [lows_succ, List.foldl_append]; rfl

set_option maxHeartbeats 1000000 in
theorem rsum_any (A : Option Addr) (l : List UInt8) (cap : Nat) (w : World) (hA : Bytes w A l) (hl : l.length ≤ maxLen) :
    Calls Try.prog 70 #[.slice A l.length cap] w fun e w' => e = .returned (.int .u32 (u (sum l))) ∧ w = w' := by
  unfold maxLen at hl
  go_enter Try.func70, Try.ntmps70
  go_wp2
  go_loop [3, 4] (fun r i => ∃ k : Nat, k ≤ l.length ∧ i = .int .i64 k ∧ r = .int .u32 (u (reg ones (l.take k)))) (fun _ i => l.length - (intOf i).toNat)
  case atStart => exact ⟨0, by omega, rfl, rfl⟩
  case round =>
    obtain ⟨i, hi, rfl, rfl⟩ := hrel
    by_cases hlt : i < l.length
    · rcases hA with rfl | ⟨b, off, rfl, hb, hc⟩
      · simp at hlt
      have c0 := hc i hlt
      have hs := reg_snoc ones l i hlt
      rw [show byteStep (reg ones (l.take i) ^^^ cw l[i]) = (lows (cw l[i]) 8).foldl bstep (reg ones (l.take i)) from (cstep_lows _ _).symm] at hs
      generalize reg ones (l.take i) = y at *
      have Hs := Lib.hid hs; clear hs hc
      rw [cw_u] at c0
      generalize cw l[i] = c at *
      have hm : u c % 4294967296 = u c := Int.emod_eq_of_lt (u_ge _) (u_lt _)
      go_wp2
      go_loop [3, 5] (fun r j => ∃ k : Nat, k ≤ 8 ∧ j = .int .i64 k ∧ r = .int .u32 (u ((lows c k).foldl bstep y))) (fun _ j => 8 - (intOf j).toNat)
      case atStart => exact ⟨0, by omega, rfl, rfl⟩
      case round =>
        obtain ⟨k, hk, rfl, rfl⟩ := hrel
        by_cases hk8 : k < 8
        · have hf := lows_fold c y k
          generalize hz : (lows c k).foldl bstep y = z at *
          rw [bstep_eq] at hf
          have Hf := Lib.hid hf; clear hf hz
          have hh := u_half z
          have hm2 : u (z >>> 1) % 4294967296 = u (z >>> 1) := Int.emod_eq_of_lt (u_ge _) (u_lt _)
          have hx := xor_u (z >>> 1) poly
          rw [← poly_u] at hx
          have hz0 := u_ge z
          have hc0 : 0 ≤ u c / 2 ^ k := Int.ediv_nonneg (u_ge c) (Int.le_of_lt (Int.pow_pos (by decide)))
          have e1 := u_odd z
          have e2 := bit_odd c k
          generalize z.getLsbD 0 = b1 at *
          generalize c.getLsbD k = b2 at *
          cases b1 <;> cases b2
          all_goals
            go_wp2
            go_round
            case rel =>
              refine ⟨k + 1, by omega, by go_num, ?_⟩
              rw [Hf.out]
              simp
            case measure => simp [intOf]; omega
        · obtain rfl : k = 8 := by omega
          go_wp2
          go_round
          case rel => exact ⟨i + 1, by omega, by go_num, by rw [Hs.out]⟩
          case measure => simp [intOf]; omega
    · obtain rfl : i = l.length := by omega
      rw [List.take_length]
      have hs : 4294967295 - u (reg ones l) = u (sum l) := by
        unfold sum
        generalize reg ones l = r
        have := u_lt r
        unfold u
        rw [BitVec.toNat_not]
        have := r.isLt
        omega
      have hg := u_ge (reg ones l)
      have hl' := u_lt (reg ones l)
      go_wp2
      go_ret
      exact ⟨rfl, rfl⟩
end Crc
end Go.Proofs.Ytijijfggppnbpaa
