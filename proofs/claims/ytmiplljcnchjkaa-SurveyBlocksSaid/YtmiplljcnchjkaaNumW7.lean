/-
  The walks of the reference of package wide: a number of two parts.
-/
import Derived.Test.YtmiplljcnchjkaaNumW6
namespace Go.Proofs.Ytmiplljcnchjkaa
open Go.RowKit
set_option linter.unusedVariables false
namespace Num

theorem bitN_two (a b j : Nat) (ha : a < 2 ^ 64) : bitN (a + 2 ^ 64 * b) j = if j < 64 then bitN a j else bitN b (j - 64) := by
  unfold bitN
  rw [← Nat.toNat_testBit, Nat.add_comm, Nat.testBit_two_pow_mul_add _ ha]
  split
  · rw [Nat.toNat_testBit]
  · rw [Nat.toNat_testBit]
theorem mod_room (x j : Nat) (hj : j ≤ 64) : x % 2 ^ j < 2 ^ 64 := Nat.lt_of_lt_of_le (Nat.mod_lt _ (Nat.two_pow_pos j)) (Nat.pow_le_pow_right (by decide) hj)
theorem two_low (lo hi j : Nat) (hj : j < 64) : (bt (lo % 2 ^ j + 2 ^ 64 * (hi % 2 ^ j))).set j (.int .i64 (bitN lo j : Int)) = bt (lo % 2 ^ (j + 1) + 2 ^ 64 * (hi % 2 ^ j)) := by
  refine bt_set _ _ j _ (by omega) fun t ht => ?_
  rw [bitN_two _ _ _ (mod_room lo (j + 1) (by omega)), bitN_two _ _ _ (mod_room lo j (by omega)), bitN_mod lo (j + 1), bitN_mod lo j]
  by_cases e : t = j
  · subst e
    rw [if_pos hj, if_pos rfl, if_pos (by omega)]
  · rw [if_neg e]
    by_cases h : t < 64
    · rw [if_pos h, if_pos h]
      by_cases h2 : t < j
      · rw [if_pos h2, if_pos (by omega)]
      · rw [if_neg h2, if_neg (by omega)]
    · rw [if_neg h, if_neg h]
theorem two_high (lo hi j : Nat) (hj : j < 64) : (bt (lo % 2 ^ (j + 1) + 2 ^ 64 * (hi % 2 ^ j))).set (64 + j) (.int .i64 (bitN hi j : Int)) = bt (lo % 2 ^ (j + 1) + 2 ^ 64 * (hi % 2 ^ (j + 1))) := by
  refine bt_set _ _ (64 + j) _ (by omega) fun t ht => ?_
  rw [bitN_two _ _ _ (mod_room lo (j + 1) (by omega)), bitN_two _ _ _ (mod_room lo (j + 1) (by omega)), bitN_mod hi (j + 1), bitN_mod hi j]
  by_cases e : t = 64 + j
  · subst e
    rw [if_neg (by omega), if_pos rfl, Nat.add_sub_cancel_left, if_pos (by omega)]
  · rw [if_neg e]
    by_cases h : t < 64
    · rw [if_pos h, if_pos h]
    · rw [if_neg h, if_neg h]
      by_cases h2 : t - 64 < j
      · rw [if_pos h2, if_pos (by omega)]
      · rw [if_neg h2, if_neg (by omega)]
set_option maxRecDepth 100000 in
set_option maxHeartbeats 1000000 in
theorem from_any (N hi lo : Nat) (hN : N < 2 ^ 127) (hh : N / 18446744073709551616 = hi) (hl : N % 18446744073709551616 = lo) (w : World) :
    Calls Try.prog 20 #[.int .i64 (hi : Int), .int .u64 (lo : Int)] w fun e w' => e = .returned (nv false N) ∧ Below w.heap.size w w' := by
  have hhl : hi < 9223372036854775808 := by omega
  have hll : lo < 18446744073709551616 := by omega
  have hend : lo % 2 ^ 64 + 2 ^ 64 * (hi % 2 ^ 64) = N := by omega
  have u0 : IntKind.u64.wrap (hi : Int) = (hi : Int) := IntWalk.u64_in _ (by omega)
  have hzN := zeroN
  obtain ⟨L0, hL0⟩ : ∃ L0, L0 = num false 0 := ⟨_, rfl⟩
  rw [← hL0] at hzN
  have hnl : L0.length = 130 := by rw [hL0]; exact num_len _ _
  have Hnl := Lib.hid hnl
  have Hnlx := fun Z => Lib.hid (show (num false Z).length = 130 from num_len _ _)
  have iG := infoN2 false N
  have oG := num_one false N
  have k0 := (Blk.mk w 32 L0).alloc (.cells L0.toArray 32)
  have k1 := Blk.mk (w.alloc (.cells L0.toArray 32)) 32 L0
  rw [show (w.alloc (.cells L0.toArray 32)).heap.size = w.heap.size + 1 by simp] at k1
  have K0 := Lib.hid k0
  have K1 := Lib.hid k1
  have KB := Lib.hid (_root_.Go.Proofs.Ytmiplljcnchjkaa.bt (bl w (.cells L0.toArray 32)) (bl _ (.cells L0.toArray 32)))
  have HL0 := Lib.hid hL0
  have Hend := Lib.hid hend
  have Hhl := Lib.hid hhl
  have Hll := Lib.hid hll
  clear hL0 hnl hend k0 k1 hh hl hN hll hhl
  unfold nv
  go_enter Try.func20, Try.ntmps20
  go_wp2
  generalize (w.alloc (.cells L0.toArray 32)).alloc (.cells L0.toArray 32) = W at *
  clear hzN u0
  go_loopw [6, 7, 8] (fun h l i wr => ∃ j : Nat, j ≤ 64 ∧ i = .int .i64 (j : Int) ∧ l = .int .u64 ((lo / 2 ^ j : Nat) : Int) ∧ h = .int .u64 ((hi / 2 ^ j : Nat) : Int) ∧ Below w.heap.size w wr ∧ Blk wr w.heap.size 32 L0 ∧ Blk wr (w.heap.size + 1) 32 (num false (lo % 2 ^ j + 2 ^ 64 * (hi % 2 ^ j)))) (fun _ _ i _ => 64 - (intOf i).toNat)
  case atStart => exact ⟨0, by omega, rfl, by rw [Nat.pow_zero, Nat.div_one], by rw [Nat.pow_zero, Nat.div_one], KB.out, K0.out, by rw [Nat.pow_zero, Nat.mod_one, Nat.mod_one, ← HL0.out]; exact K1.out⟩
  case round =>
    clear K0 K1 KB
    obtain ⟨j, hj, rfl, rfl, rfl, hb, k0, k1⟩ := hrel
    have K0 := Lib.hid k0
    have K1 := Lib.hid k1
    have Hb := Lib.hid hb
    clear hb k0 k1
    by_cases hlt : j < 64
    · have f1 := K1.out.free (1 + j)
      have f2 := K1.out.free (1 + (64 + j))
      have c1 : wr.cell? ⟨w.heap.size + 1, 1 + j, none⟩ = _ := (K1.out.cell (1 + j)).trans (num_at _ _ j (by omega))
      have c2 : wr.cell? ⟨w.heap.size + 1, 1 + (64 + j), none⟩ = _ := (K1.out.cell (1 + (64 + j))).trans (num_at _ _ (64 + j) (by omega))
      have t1 := num_set false _ _ j _ (two_low lo hi j hlt)
      have t2 := num_set false _ _ (64 + j) _ (two_high lo hi j hlt)
      have K2 := (K1.out.put (1 + j) (.int .i64 (bitN lo j : Int))).put (1 + (64 + j)) (.int .i64 (bitN hi j : Int))
      rw [t1, t2] at K2
      have d1 : bitN lo j = lo / 2 ^ j % 2 := rfl
      have d2 : bitN hi j = hi / 2 ^ j % 2 := rfl
      have g1 : lo / 2 ^ (j + 1) = lo / 2 ^ j / 2 := by rw [Nat.pow_succ, Nat.div_div_eq_div_mul]
      have g2 : hi / 2 ^ (j + 1) = hi / 2 ^ j / 2 := by rw [Nat.pow_succ, Nat.div_div_eq_div_mul]
      have l1 : lo / 2 ^ j < 18446744073709551616 := Nat.lt_of_le_of_lt (Nat.div_le_self _ _) Hll.out
      have l2 : hi / 2 ^ j < 18446744073709551616 := Nat.lt_of_le_of_lt (Nat.div_le_self _ _) (by have := Hhl.out; omega)
      have G1 := Lib.hid g1
      have G2 := Lib.hid g2
      rw [d1, d2] at K2
      clear d1 d2 g1 g2 t1 t2
      generalize bitN (lo % 2 ^ j + 2 ^ 64 * (hi % 2 ^ j)) j = x1 at *
      generalize bitN (lo % 2 ^ j + 2 ^ 64 * (hi % 2 ^ j)) (64 + j) = x2 at *
      generalize lo / 2 ^ j = a at *
      generalize hi / 2 ^ j = b at *
      obtain ⟨a1, a2, a3, a4, a5, a6, a7, a8⟩ := halves a l1
      obtain ⟨b1, b2, b3, b4, b5, b6, b7, b8⟩ := halves b l2
      have KK := Lib.hid K2
      have i1 : (j : Int) < 129 := by omega
      have i2 : ((64 + j : Nat) : Int) < 129 := by omega
      have i3 : IntKind.i64.wrap (64 + (j : Int)) = ((64 + j : Nat) : Int) := by rw [IntWalk.i64_in _ (by omega)]; omega
      have hb2 : Hid (Below w.heap.size w ((wr.setCell ⟨w.heap.size + 1, 1 + j, none⟩ (.int .i64 ((a % 2 : Nat) : Int))).setCell ⟨w.heap.size + 1, 1 + (64 + j), none⟩ (.int .i64 ((b % 2 : Nat) : Int)))) := Lib.hid ((Hb.out.setCell (show w.heap.size ≤ w.heap.size + 1 by omega) _).setCell (show w.heap.size ≤ w.heap.size + 1 by omega) _)
      have hk2 : Hid (Blk ((wr.setCell ⟨w.heap.size + 1, 1 + j, none⟩ (.int .i64 ((a % 2 : Nat) : Int))).setCell ⟨w.heap.size + 1, 1 + (64 + j), none⟩ (.int .i64 ((b % 2 : Nat) : Int))) w.heap.size 32 L0) := Lib.hid ((K0.out.far (p := ⟨w.heap.size + 1, 1 + j, none⟩) (show w.heap.size ≠ w.heap.size + 1 by omega) _).far (p := ⟨w.heap.size + 1, 1 + (64 + j), none⟩) (show w.heap.size ≠ w.heap.size + 1 by omega) _)
      clear K2 K0 K1 Hb
      generalize hra : a % 2 = ra at *
      generalize hda : a / 2 = da at *
      generalize hrb : b % 2 = rb at *
      generalize hdb : b / 2 = db at *
      clear hra hda hrb hdb
      go_wp2
      go_roundw
      case rel => exact ⟨j + 1, by omega, by go_num, by rw [G1.out], by rw [G2.out], hb2.out, hk2.out, KK.out⟩
      case measure => first | (simp [intOf]; done) | (simp [intOf]; omega)
    · obtain rfl : j = 64 := by omega
      have k1 := K1.out
      rw [Hend.out] at k1
      have K3 := Lib.hid k1
      clear k1 K1
      go_wp2_with (first
        | (refine wpList_load_mid rfl 32 _ rfl (w.heap.size + 1) 0 rfl (num false N) _ ?hr Try.underlying32 rfl (infoN3 _ _) ?_; (case hr => exact nums_range K3.out))
        | (refine wpList_store_mid rfl 32 _ _ rfl w.heap.size 0 (num false N).toArray rfl rfl ?ht iG (all_oneCell_toArray oG) ?_; (case ht => (rw [numA]; exact blk_there K0.out 0 130 (by rw [Hnl.out]; decide)))))
      refine bodyPost_ret (results_cell_row rfl _ _ w.heap.size 32 (num false N).toArray (0, 0) _ rfl (full_mid K0.out _ (by rw [(Hnlx N).out, Hnl.out])) Try.underlying32 rfl (infoN2 _ _)) rfl ?_
      exact ⟨rfl, below_cells _ _ _ _ Hb.out (Nat.le_refl _)⟩
end Num
end Go.Proofs.Ytmiplljcnchjkaa
