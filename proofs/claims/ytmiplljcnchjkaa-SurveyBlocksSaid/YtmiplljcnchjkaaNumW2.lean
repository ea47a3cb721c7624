/-
  The walks of the reference of package wide: numbers with a sign.
-/
import Derived.Test.YtmiplljcnchjkaaNumW
import Derived.Test.YtmiplljcnchjkaaHead
namespace Go.Proofs.Ytmiplljcnchjkaa
open Go.RowKit
set_option linter.unusedVariables false
namespace Num

set_option maxRecDepth 100000 in
set_option maxHeartbeats 1000000 in
theorem shift_any (X Z : Nat) (hZ : (X + X) % 2 ^ 129 = Z) (w : World) :
    Calls Try.prog 55 #[av X] w fun e w' => e = .returned (av Z) ∧ Below w.heap.size w w' := by
  have hzA := zeroA
  have HZ := Lib.hid hZ
  have k0 := (Blk.mk w 30 (bt X)).alloc (.cells (bt 0).toArray 30)
  have k1 := Blk.mk (w.alloc (.cells (bt X).toArray 30)) 30 (bt 0)
  rw [show (w.alloc (.cells (bt X).toArray 30)).heap.size = w.heap.size + 1 by simp] at k1
  have bb := _root_.Go.Proofs.Ytmiplljcnchjkaa.bt (bl w (.cells (bt X).toArray 30)) (bl (w.alloc (.cells (bt X).toArray 30)) (.cells (bt 0).toArray 30))
  have r0 := arr_range k0
  have K1 := Lib.hid k1
  have BB := Lib.hid bb
  clear hZ k0 k1 bb
  unfold av
  go_enter Try.func55, Try.ntmps55
  go_wp2_with (refine wpList_load_mid rfl 30 _ rfl w.heap.size 0 rfl (bt X) _ r0 Try.underlying30 rfl (infoA3 _) ?_)
  refine (addBits_any X X Z HZ.out _).mono ?_
  rintro e w2 ⟨rfl, hb2⟩
  have hb3 := _root_.Go.Proofs.Ytmiplljcnchjkaa.bt BB.out hb2
  have k2 := K1.out.below hb2 K1.out.lt
  have Hb3 := Lib.hid hb3
  have K2 := Lib.hid k2
  have t2 : w2.there (w.heap.size + 1) 0 (bt Z).toArray.size := by rw [btA]; exact blk_there k2 0 129 (by rw [bt_len]; decide)
  clear hb2 hb3 k2 K1 BB r0 hzA
  unfold av
  go_wp2_with (refine wpList_store_mid rfl 30 _ _ rfl (w.heap.size + 1) 0 (bt Z).toArray rfl rfl t2 (infoA2 Z) (all_oneCell_toArray (bt_one _)) ?_)
  refine bodyPost_ret (results_cell_row rfl _ _ (w.heap.size + 1) 30 (bt Z).toArray (0, 0) _ rfl (full_mid K2.out _ (by rw [bt_len, bt_len])) Try.underlying30 rfl (infoA2 _)) rfl ?_
  exact ⟨rfl, below_cells _ _ _ _ Hb3.out (by omega)⟩
set_option maxRecDepth 100000 in
set_option maxHeartbeats 1000000 in
theorem of_pos (M : Nat) (hM2 : M < 9223372036854775808) (w : World) :
    Calls Try.prog 48 #[.int .i64 ((M : Nat) : Int)] w fun e w' => e = .returned (nv false M) ∧ Below w.heap.size w w' := by
  have hzN := zeroN
  have hns : (num false 0).set 0 (.bool false) = num false 0 := rfl
  have hnl : (num false 0).length = 130 := num_len _ _
  have hM64 : M < 2 ^ 64 := by omega
  have HM := Lib.hid hM64
  have k0 := (Blk.mk w 32 (num false 0)).alloc (.cells (num false 0).toArray 32)
  have k1 := Blk.mk (w.alloc (.cells (num false 0).toArray 32)) 32 (num false 0)
  rw [show (w.alloc (.cells (num false 0).toArray 32)).heap.size = w.heap.size + 1 by simp] at k1
  have bb := _root_.Go.Proofs.Ytmiplljcnchjkaa.bt (bl w (.cells (num false 0).toArray 32)) (bl (w.alloc (.cells (num false 0).toArray 32)) (.cells (num false 0).toArray 32))
  have t1 : ((w.alloc (.cells (num false 0).toArray 32)).alloc (.cells (num false 0).toArray 32)).there (w.heap.size + 1) 0 (num false 0).toArray.size := by rw [numA]; exact blk_there k1 0 130 (by rw [num_len]; decide)
  have q0 := blk_apart (num false 0) _ (w.heap.size + 1) 0 k0 (by omega)
  have q1 := full_mid k1 (num false 0) (by simp only [num_len])
  have q2 := below_cells (num false 0) _ (w.heap.size + 1) 0 bb (by omega)
  have Q0 := Lib.hid q0
  have Q1 := Lib.hid q1
  have Q2 := Lib.hid q2
  have hneg : decide (((M : Nat) : Int) < 0) = false := decide_eq_false (by omega)
  clear k0 k1 bb q0 q1 q2 hM64
  have iL1 := infoN2 false 0
  have oL1 := num_one false 0
  obtain ⟨L0, hL0⟩ : ∃ L0, L0 = num false 0 := ⟨_, rfl⟩
  rw [← hL0] at hzN hns hnl Q0 Q1 Q2 t1 iL1 oL1
  have HL0 := Lib.hid hL0
  clear hL0
  have hnn : ¬ L0 = [] := by
    intro e
    rw [e] at hnl
    cases hnl
  go_enter Try.func48, Try.ntmps48
  go_wp2_with (refine wpList_store_mid rfl 32 _ _ rfl (w.heap.size + 1) 0 L0.toArray rfl rfl t1 iL1 (all_oneCell_toArray oL1) ?_)
  generalize ((w.alloc (.cells L0.toArray 32)).alloc (.cells L0.toArray 32)).setCells (w.heap.size + 1) 0 L0 = W at *
  rw [HL0.out] at Q0
  rw [HL0.out] at Q1
  clear hzN hns hnl t1 hneg hnn iL1 oL1
  go_loopw [4, 5] (fun n i wr => ∃ j : Nat, j ≤ 65 ∧ i = .int .i64 (j : Int) ∧ n = .int .i64 ((M / 2 ^ j : Nat) : Int) ∧ Blk wr w.heap.size 32 (num false 0) ∧ Blk wr (w.heap.size + 1) 32 (num false (M % 2 ^ j)) ∧ Below w.heap.size w wr) (fun _ i _ => 65 - (intOf i).toNat)
  case atStart => exact ⟨0, by omega, rfl, by rw [Nat.pow_zero, Nat.div_one], Q0.out, by rw [Nat.pow_zero, Nat.mod_one]; exact Q1.out, Q2.out⟩
  case round =>
    clear Q0 Q1 Q2
    obtain ⟨j, hj, rfl, rfl, q0, q1, q2⟩ := hrel
    have Q0 := Lib.hid q0
    have Q1 := Lib.hid q1
    have Q2 := Lib.hid q2
    clear q0 q1 q2
    have hnext := mod_next M j
    have hdiv := div_next M j
    have hble := bitN_lt M j
    have hMle : M / 2 ^ j ≤ 9223372036854775808 := Nat.le_trans (Nat.div_le_self _ _) (by omega)
    have hst := fun hj => num_set false (M % 2 ^ j) (M % 2 ^ (j + 1)) j (bitN M j) (bt_step M j hj)
    have h65 : j = 65 → M / 2 ^ j = 0 := fun e => by
      subst e
      exact Nat.div_eq_of_lt (Nat.lt_trans HM.out (by decide))
    have hdone : M / 2 ^ j = 0 → M % 2 ^ j = M := fun h => Nat.mod_eq_of_lt (by
      rcases Nat.lt_or_ge M (2 ^ j) with h' | h'
      · exact h'
      · have := Nat.div_pos h' (Nat.two_pow_pos j)
        omega)
    have Hst := Lib.hid hst
    have Hdone := Lib.hid hdone
    have Hnext := Lib.hid hnext
    clear hst hdone hnext
    obtain ⟨k, hk⟩ : ∃ k, k = M / 2 ^ j := ⟨_, rfl⟩
    obtain ⟨k2, hk2⟩ : ∃ k2, k2 = M / 2 ^ (j + 1) := ⟨_, rfl⟩
    rw [← hk] at hdiv hMle h65 ⊢
    rw [← hk2] at hdiv
    have Hk := Lib.hid hk
    have Hk2 := Lib.hid hk2
    clear hk hk2
    by_cases h0 : k = 0
    · clear hdiv hble h65
      subst h0
      have hq1 := Q1.out
      rw [Hdone.out Hk.out.symm] at hq1
      have r1 := nums_range hq1
      have t0 : wr.there w.heap.size 0 (num false M).toArray.size := by rw [numA]; exact blk_there Q0.out 0 130 (by rw [num_len]; decide)
      clear hq1
      go_wp2_with (first
        | (refine wpList_load_mid rfl 32 _ rfl (w.heap.size + 1) 0 rfl (num false M) _ r1 Try.underlying32 rfl (infoN3 _ _) ?_)
        | (refine wpList_store_mid rfl 32 _ _ rfl w.heap.size 0 (num false M).toArray rfl rfl t0 (infoN2 _ _) (all_oneCell_toArray (num_one _ _)) ?_))
      all_goals
        refine bodyPost_ret (results_cell_row rfl _ _ w.heap.size 32 (num false M).toArray (0, 0) _ rfl (full_mid Q0.out _ (by simp only [num_len])) Try.underlying32 rfl (infoN2 _ _)) rfl ?_
        exact ⟨rfl, below_cells _ _ _ _ Q2.out (Nat.le_refl _)⟩
    · have hj64 : j < 65 := by
        have := h65
        omega
      have hkn : (((k : Nat) : Int) != 0) = true := by rw [bne_iff_ne]; omega
      have hkn2 : ¬ ((k : Nat) : Int) = 0 := by omega
      have i1 : (j : Int) < 65 := by omega
      have e1 : (k : Int) / 2 = (k2 : Int) := by omega
      have e2 : ((k : Nat) : Int).tdiv 2 = ((k2 : Nat) : Int) := by rw [Int.tdiv_eq_ediv_of_nonneg (by omega)]; exact e1
      have u1 : IntKind.i64.wrap ((k2 : Nat) : Int) = ((k2 : Nat) : Int) := IntWalk.i64_in _ (by omega)
      obtain ⟨b, hb⟩ : ∃ b, b = bitN M j := ⟨_, rfl⟩
      rw [← hb] at hdiv hble
      have Hb := Lib.hid hb
      clear hb h65
      by_cases hb0 : b = 0
      · have e3 : ((k : Nat) : Int).tmod 2 = 0 := by rw [Int.tmod_eq_emod_of_nonneg (by omega)]; omega
        have e4 : (k : Int) % 2 = 0 := by omega
        have hsame : Hid (M % 2 ^ (j + 1) = M % 2 ^ j) := Lib.hid (by rw [Hnext.out, ← Hb.out, hb0, Nat.mul_zero, Nat.add_zero])
        clear hdiv hble
        go_wp2
        go_roundw
        case rel => exact ⟨j + 1, by omega, by go_num, by rw [Hk2.out], Q0.out, by rw [hsame.out]; exact Q1.out, Q2.out⟩
        case measure => first | (simp [intOf]; done) | (simp [intOf]; omega)
      · have hb1 : b = 1 := by omega
        have e3 : ((k : Nat) : Int).tmod 2 = 1 := by rw [Int.tmod_eq_emod_of_nonneg (by omega)]; omega
        have e4 : (k : Int) % 2 = 1 := by omega
        have f1 := Q1.out.free (1 + j)
        have c1 := (Q1.out.cell (1 + j)).trans (num_at _ _ j (by omega))
        have q1 := Q1.out.put (1 + j) (.int .i64 1)
        have hset := Hst.out (by omega)
        rw [← Hb.out, hb1] at hset
        rw [show (1 : Int) = ((1 : Nat) : Int) by rfl, hset] at q1
        have Q1' := Lib.hid q1
        clear hdiv hble q1 hset
        go_wp2
        go_roundw
        case rel => exact ⟨j + 1, by omega, by go_num, by rw [Hk2.out], Q0.out.far (p := ⟨w.heap.size + 1, 1 + j, none⟩) (show w.heap.size ≠ w.heap.size + 1 by omega) _, Q1'.out, Q2.out.setCell (show w.heap.size ≤ w.heap.size + 1 by omega) _⟩
        case measure => first | (simp [intOf]; done) | (simp [intOf]; omega)
set_option maxRecDepth 100000 in
set_option maxHeartbeats 1000000 in
theorem of_neg (M : Nat) (hM : 1 ≤ M) (hM2 : M ≤ 9223372036854775808) (w : World) :
    Calls Try.prog 48 #[.int .i64 (-((M : Nat) : Int))] w fun e w' => e = .returned (nv true M) ∧ Below w.heap.size w w' := by
  have hzN := zeroN
  have hns : (num false 0).set 0 (.bool true) = num true 0 := rfl
  have hnl : (num false 0).length = 130 := num_len _ _
  have hM64 : M < 2 ^ 64 := by omega
  have HM := Lib.hid hM64
  have k0 := (Blk.mk w 32 (num false 0)).alloc (.cells (num false 0).toArray 32)
  have k1 := Blk.mk (w.alloc (.cells (num false 0).toArray 32)) 32 (num false 0)
  rw [show (w.alloc (.cells (num false 0).toArray 32)).heap.size = w.heap.size + 1 by simp] at k1
  have bb := _root_.Go.Proofs.Ytmiplljcnchjkaa.bt (bl w (.cells (num false 0).toArray 32)) (bl (w.alloc (.cells (num false 0).toArray 32)) (.cells (num false 0).toArray 32))
  have t1 : ((w.alloc (.cells (num false 0).toArray 32)).alloc (.cells (num false 0).toArray 32)).there (w.heap.size + 1) 0 (num true 0).toArray.size := by rw [numA]; exact blk_there k1 0 130 (by rw [num_len]; decide)
  have q0 := blk_apart (num true 0) _ (w.heap.size + 1) 0 k0 (by omega)
  have q1 := full_mid k1 (num true 0) (by simp only [num_len])
  have q2 := below_cells (num true 0) _ (w.heap.size + 1) 0 bb (by omega)
  have Q0 := Lib.hid q0
  have Q1 := Lib.hid q1
  have Q2 := Lib.hid q2
  have hneg : decide ((-((M : Nat) : Int)) < 0) = true := decide_eq_true (by omega)
  have hneg2 : decide (0 < M) = true := decide_eq_true (by omega)
  clear k0 k1 bb q0 q1 q2 hM64
  have iL1 := infoN2 true 0
  have oL1 := num_one true 0
  obtain ⟨L0, hL0⟩ : ∃ L0, L0 = num false 0 := ⟨_, rfl⟩
  obtain ⟨L1, hL1⟩ : ∃ L1, L1 = num true 0 := ⟨_, rfl⟩
  rw [← hL1] at t1 Q0 Q1 Q2 iL1 oL1 hns
  rw [← hL0] at hzN hns hnl Q0 Q1 Q2 t1
  have HL0 := Lib.hid hL0
  have HL1 := Lib.hid hL1
  clear hL1
  clear hL0
  have hnn : ¬ L0 = [] := by
    intro e
    rw [e] at hnl
    cases hnl
  go_enter Try.func48, Try.ntmps48
  go_wp2_with (refine wpList_store_mid rfl 32 _ _ rfl (w.heap.size + 1) 0 L1.toArray rfl rfl t1 iL1 (all_oneCell_toArray oL1) ?_)
  generalize ((w.alloc (.cells L0.toArray 32)).alloc (.cells L0.toArray 32)).setCells (w.heap.size + 1) 0 L1 = W at *
  rw [HL0.out] at Q0
  rw [HL1.out] at Q1
  clear hzN hns hnl t1 hneg hnn iL1 oL1
  go_loopw [4, 5] (fun n i wr => ∃ j : Nat, j ≤ 65 ∧ i = .int .i64 (j : Int) ∧ n = .int .i64 (-((M / 2 ^ j : Nat) : Int)) ∧ Blk wr w.heap.size 32 (num false 0) ∧ Blk wr (w.heap.size + 1) 32 (num true (M % 2 ^ j)) ∧ Below w.heap.size w wr) (fun _ i _ => 65 - (intOf i).toNat)
  case atStart => exact ⟨0, by omega, rfl, by rw [Nat.pow_zero, Nat.div_one], Q0.out, by rw [Nat.pow_zero, Nat.mod_one]; exact Q1.out, Q2.out⟩
  case round =>
    clear Q0 Q1 Q2
    obtain ⟨j, hj, rfl, rfl, q0, q1, q2⟩ := hrel
    have Q0 := Lib.hid q0
    have Q1 := Lib.hid q1
    have Q2 := Lib.hid q2
    clear q0 q1 q2
    have hnext := mod_next M j
    have hdiv := div_next M j
    have hble := bitN_lt M j
    have hMle : M / 2 ^ j ≤ 9223372036854775808 := Nat.le_trans (Nat.div_le_self _ _) (by omega)
    have hst := fun hj => num_set true (M % 2 ^ j) (M % 2 ^ (j + 1)) j (bitN M j) (bt_step M j hj)
    have h65 : j = 65 → M / 2 ^ j = 0 := fun e => by
      subst e
      exact Nat.div_eq_of_lt (Nat.lt_trans HM.out (by decide))
    have hdone : M / 2 ^ j = 0 → M % 2 ^ j = M := fun h => Nat.mod_eq_of_lt (by
      rcases Nat.lt_or_ge M (2 ^ j) with h' | h'
      · exact h'
      · have := Nat.div_pos h' (Nat.two_pow_pos j)
        omega)
    have Hst := Lib.hid hst
    have Hdone := Lib.hid hdone
    have Hnext := Lib.hid hnext
    clear hst hdone hnext
    obtain ⟨k, hk⟩ : ∃ k, k = M / 2 ^ j := ⟨_, rfl⟩
    obtain ⟨k2, hk2⟩ : ∃ k2, k2 = M / 2 ^ (j + 1) := ⟨_, rfl⟩
    rw [← hk] at hdiv hMle h65 ⊢
    rw [← hk2] at hdiv
    have Hk := Lib.hid hk
    have Hk2 := Lib.hid hk2
    clear hk hk2
    by_cases h0 : k = 0
    · clear hdiv hble h65
      subst h0
      have hq1 := Q1.out
      rw [Hdone.out Hk.out.symm] at hq1
      have r1 := nums_range hq1
      have t0 : wr.there w.heap.size 0 (num true M).toArray.size := by rw [numA]; exact blk_there Q0.out 0 130 (by rw [num_len]; decide)
      clear hq1
      go_wp2_with (first
        | (refine wpList_load_mid rfl 32 _ rfl (w.heap.size + 1) 0 rfl (num true M) _ r1 Try.underlying32 rfl (infoN3 _ _) ?_)
        | (refine wpList_store_mid rfl 32 _ _ rfl w.heap.size 0 (num true M).toArray rfl rfl t0 (infoN2 _ _) (all_oneCell_toArray (num_one _ _)) ?_))
      all_goals
        refine bodyPost_ret (results_cell_row rfl _ _ w.heap.size 32 (num true M).toArray (0, 0) _ rfl (full_mid Q0.out _ (by simp only [num_len])) Try.underlying32 rfl (infoN2 _ _)) rfl ?_
        exact ⟨rfl, below_cells _ _ _ _ Q2.out (Nat.le_refl _)⟩
    · have hj64 : j < 65 := by
        have := h65
        omega
      have hkn : ((-((k : Nat) : Int)) != 0) = true := by rw [bne_iff_ne]; omega
      have hkn2 : ¬ (-((k : Nat) : Int)) = 0 := by omega
      have i1 : (j : Int) < 65 := by omega
      have e1 : (k : Int) / 2 = (k2 : Int) := by omega
      have e2 : (-((k : Nat) : Int)).tdiv 2 = (-((k2 : Nat) : Int)) := by rw [Int.neg_tdiv, Int.tdiv_eq_ediv_of_nonneg (by omega), e1]
      have u1 : IntKind.i64.wrap (-((k2 : Nat) : Int)) = (-((k2 : Nat) : Int)) := IntWalk.i64_in _ (by omega)
      obtain ⟨b, hb⟩ : ∃ b, b = bitN M j := ⟨_, rfl⟩
      rw [← hb] at hdiv hble
      have Hb := Lib.hid hb
      clear hb h65
      by_cases hb0 : b = 0
      · have e3 : (-((k : Nat) : Int)).tmod 2 = 0 := by rw [Int.neg_tmod, Int.tmod_eq_emod_of_nonneg (by omega)]; omega
        have e4 : (k : Int) % 2 = 0 := by omega
        have hsame : Hid (M % 2 ^ (j + 1) = M % 2 ^ j) := Lib.hid (by rw [Hnext.out, ← Hb.out, hb0, Nat.mul_zero, Nat.add_zero])
        clear hdiv hble
        go_wp2
        go_roundw
        case rel => exact ⟨j + 1, by omega, by go_num, by rw [Hk2.out], Q0.out, by rw [hsame.out]; exact Q1.out, Q2.out⟩
        case measure => first | (simp [intOf]; done) | (simp [intOf]; omega)
      · have hb1 : b = 1 := by omega
        have e3 : (-((k : Nat) : Int)).tmod 2 = -1 := by rw [Int.neg_tmod, Int.tmod_eq_emod_of_nonneg (by omega)]; omega
        have e4 : (k : Int) % 2 = 1 := by omega
        have f1 := Q1.out.free (1 + j)
        have c1 := (Q1.out.cell (1 + j)).trans (num_at _ _ j (by omega))
        have q1 := Q1.out.put (1 + j) (.int .i64 1)
        have hset := Hst.out (by omega)
        rw [← Hb.out, hb1] at hset
        rw [show (1 : Int) = ((1 : Nat) : Int) by rfl, hset] at q1
        have Q1' := Lib.hid q1
        clear hdiv hble q1 hset
        go_wp2
        go_roundw
        case rel => exact ⟨j + 1, by omega, by go_num, by rw [Hk2.out], Q0.out.far (p := ⟨w.heap.size + 1, 1 + j, none⟩) (show w.heap.size ≠ w.heap.size + 1 by omega) _, Q1'.out, Q2.out.setCell (show w.heap.size ≤ w.heap.size + 1 by omega) _⟩
        case measure => first | (simp [intOf]; done) | (simp [intOf]; omega)
end Num
end Go.Proofs.Ytmiplljcnchjkaa
