/-
  The walk of the reference's Put.
-/
import Derived.Test.YtijijfggppnbpaaCrcW3
namespace Go.Proofs.Ytijijfggppnbpaa
open Go.RowKit
namespace Crc

theorem le4_len (s : BitVec 32) : (le4 s).length = 4 := rfl
theorem le4_take (s : BitVec 32) (k : Nat) (h : k < 4) : (le4 s).take (k + 1) = (le4 s).take k ++ [byteAt s k] := by
  obtain rfl | rfl | rfl | rfl : k = 0 ∨ k = 1 ∨ k = 2 ∨ k = 3 := by omega
  all_goals rfl

set_option maxRecDepth 100000 in
set_option maxHeartbeats 1000000 in
theorem rput_any (A : Option Addr) (l : List UInt8) (cap : Nat) (w : World) (hA : Bytes w A l) (hn : A = none → l.length = 0 ∧ cap = 0) (hl : l.length ≤ 1000000) :
    Calls Try.prog 56 #[.slice A l.length cap] w fun e w' => ∃ v, e = .returned v ∧ Own w' w.heap.size v (put l) ∧ Below w.heap.size w w' := by
  obtain ⟨i0, hi, hz0, hz1, hz2⟩ := info_parts infoByte
  go_enter Try.func56, Try.ntmps56
  go_wp2_with (first | (go_at_call 70; refine (rsum_any _ _ _ _ hA (by unfold maxLen; omega)).mono ?_; rintro e w' ⟨rfl, rfl⟩) | (at_builtin; refine wpList_append_both rfl (.tmp 8) (.tmp 9) 26 rfl w.heap.size 5 i0 (.int .u8 0) 1 1 Try.underlying26 hi hz0 hz1 hz2 rfl (by decide) _ 0 [] rfl ?o1 A l.length cap (l.map bv) rfl (by simp) hn ?n1 (bv_one l) ?b1 ?b2 ?b3 ?_; rotate_right; intro v1 w1 hown1 hg1))
  · have hw1 : Below w.heap.size w w1 := (Below.refl _ _).grown hg1 (Nat.le_refl _) (own_ge (World.ownsRow_nil w w.heap.size 5 1))
    go_loopw [3, 4, 5] (fun s v i wr => ∃ k : Nat, k ≤ 4 ∧ i = .int .i64 k ∧ s = .int .u32 (u (sum l) / 256 ^ k) ∧ Own wr w.heap.size v (l ++ (le4 (sum l)).take k) ∧ Below w.heap.size w wr) (fun _ _ i _ => 4 - (intOf i).toNat)
    case atStart =>
      refine ⟨0, by omega, rfl, by simp, ?_, hw1⟩
      simpa [Own] using hown1
    case round =>
      clear hown1 hg1 hw1
      obtain ⟨k, hk, rfl, rfl, hown, hb⟩ := hrel
      by_cases hlt : k < 4
      · have ht := le4_take (sum l) k hlt
        have hby := byteAt_u (sum l) k
        have hpw : (256 : Int) ^ k = 2 ^ (8 * k) := by rw [show (256 : Int) = 2 ^ 8 from rfl, Int.pow_mul]
        generalize hB : byteAt (sum l) k = bt at *
        rw [← hpw] at hby
        have hdiv : u (sum l) / 256 ^ k / 256 = u (sum l) / 256 ^ (k + 1) := by
          rw [Int.ediv_ediv_of_nonneg (by exact Int.le_of_lt (Int.pow_pos (by decide)))]
          rfl
        have hge : 0 ≤ u (sum l) / 256 ^ k := Int.ediv_nonneg (u_ge _) (Int.le_of_lt (Int.pow_pos (by decide)))
        have hle : u (sum l) / 256 ^ k < 4294967296 := Int.lt_of_le_of_lt (Int.ediv_le_self _ (u_ge _)) (u_lt _)
        generalize u (sum l) / 256 ^ k = q at *
        have Hdiv := Lib.hid hdiv; clear hdiv
        have Ht := Lib.hid ht; clear ht hB hpw
        go_wp2_with (at_builtin; refine wpList_append_both rfl (.tmp 15) (.tmp 19) 26 rfl w.heap.size 5 i0 (.int .u8 0) 1 1 Try.underlying26 hi hz0 hz1 hz2 rfl (by decide) _ _ _ rfl (World.ownsRow.alloc hown _) _ 1 1 ([bt].map bv) rfl rfl (by simp) ?n2 (bv_one _) ?b4 ?b5 ?b6 ?_; rotate_right; intro v2 w2 hown2 hg2)
        · go_roundw
          case rel =>
            refine ⟨k + 1, by omega, by go_num, by rw [Hdiv.out], ?_, ?_⟩
            · rw [Ht.out, ← List.append_assoc]
              exact own_append (b := [bt]) hown2
            · exact (hb.alloc hb.size _).grown hg2 (by have := hb.size; simp; omega) (own_ge hown)
          case measure => simp [intOf]; omega
        case n2 => exact (Blk.mk wr 5 ([bt].map bv)).news
        case b4 => have : (List.take k (le4 (sum l))).length ≤ 4 := List.length_take_le' _ _; simp only [maxLen, List.length_append]; omega
        case b5 => have : (List.take k (le4 (sum l))).length ≤ 4 := List.length_take_le' _ _; simp only [List.length_append]; omega
        case b6 => have := hb.size; simp; omega
      · obtain rfl : k = 4 := by omega
        go_wp2
        go_ret
        exact ⟨_, rfl, hown, hb⟩
  case o1 => exact World.ownsRow_nil w _ _ _
  case n1 => exact hA.news
  case b1 => simp only [maxLen]; omega
  case b2 => omega
  case b3 => omega
end Crc
end Go.Proofs.Ytijijfggppnbpaa
