/- A part of the proof of WholeFaults. -/
import Derived.Test.YtekjehbkmlodmaaGreatZD
set_option linter.unusedVariables false
set_option linter.unusedSimpArgs false
namespace Go.Proofs.YtekjehbkmlodmaaGreat
section
open Go.RowKit
namespace Frm
open Txt (kind_cases bv bv_one GotB leB leB_len leB_succ leVal leVal_lt tx)
theorem leVal_head (B : List UInt8) (a : Nat) : ∀ d, leVal B a (d + 1) = (B.getD a 0).toNat + 256 * leVal B (a + 1) d
 | 0 => by simp [leVal]
 | d + 1 => by
  rw [leVal, leVal_head B a d, leVal, show a + (d + 1) = a + 1 + d by omega, show 8 * (d + 1) = 8 * d + 8 by omega, Nat.pow_add, Nat.mul_add]
  have : (B.getD (a + 1 + d) 0).toNat * (2 ^ (8 * d) * 2 ^ 8) = 256 * ((B.getD (a + 1 + d) 0).toNat * 2 ^ (8 * d)) := by
   rw [show (2 : Nat) ^ 8 = 256 by decide, ← Nat.mul_assoc, Nat.mul_comm]
  rw [this]
  omega
theorem leVal_drop (B : List UInt8) (at' a : Nat) : ∀ k, leVal B (at' + a) k = leVal (B.drop at') a k
 | 0 => rfl
 | k + 1 => by
  rw [leVal, leVal, leVal_drop B at' a k]
  congr 3
  rw [List.getD_eq_getElem?_getD, List.getD_eq_getElem?_getD, List.getElem?_drop, Nat.add_assoc]
set_option maxRecDepth 100000 in
set_option maxHeartbeats 1000000 in
theorem yget_ok (A : Option Addr) (B : List UInt8) (n cap at' k lo hi : Nat) (w : World) (h : RdL w lo hi A (B.map bv)) (hn : B.length = n) (hk : k ≤ 8) (hle : at' + k ≤ n) (hl : n ≤ 1000000) :
  Calls Tryz.prog 64 #[.slice A n cap, .int .i64 (at' : Int), .int .i64 (k : Int)] w fun e w' => e = .returned (.tuple #[.int .u64 (leVal B at' k : Int), .int .i64 0]) ∧ w = w' := by
 have H := Lib.hid h
 have Hn := Lib.hid hn
 clear h hn
 have d1 : decide ((at' : Int) < 0) = false := decide_eq_false (by omega)
 have d2 : decide ((k : Int) < 0) = false := decide_eq_false (by omega)
 have d3 : decide ((8 : Int) < (k : Int)) = false := decide_eq_false (by omega)
 have d4 : decide (n < at') = false := decide_eq_false (by omega)
 have y0 : IntKind.i64.wrap ((n : Int) - (at' : Int)) = (n : Int) - (at' : Int) := IntWalk.i64_in _ (by omega)
 have d5 : decide ((n : Int) - (at' : Int) < (k : Int)) = false := decide_eq_false (by omega)
 have y1 : IntKind.i64.wrap ((k : Int) - 1) = (k : Int) - 1 := IntWalk.i64_in _ (by omega)
 go_enter Tryz.func64, Tryz.ntmps64
 go_wp2_with fail
 go_loop [8, 9] (fun x i => ∃ j : Nat, j ≤ k ∧ i = .int .i64 ((j : Int) - 1) ∧ x = .int .u64 (leVal B (at' + j) (k - j) : Int)) (fun _ i => (intOf i + 1).toNat)
 case atStart => exact ⟨k, by omega, rfl, by rw [Nat.sub_self]; rfl⟩
 case round =>
  obtain ⟨j, hj, rfl, rfl⟩ := hrel
  by_cases h0 : 0 < j
  ·obtain ⟨i, rfl⟩ : ∃ i, j = i + 1 := ⟨j - 1, by omega⟩
   have hji : ((i + 1 : Nat) : Int) - 1 = (i : Int) := by omega
   have hjl : at' + i < B.length := by rw [Hn.out]; omega
   obtain ⟨b, off, rfl, _, _, _, hc⟩ := H.out.some (by rw [List.length_map]; omega)
   have c0 : w.cell? ⟨b, off + (at' + i), none⟩ = some (.int .u8 ((B.getD (at' + i) 0).toNat : Int)) := hc _ _ (by rw [List.getElem?_map, List.getD_eq_getElem?_getD, List.getElem?_eq_getElem hjl]; rfl)
   have hh := leVal_head B (at' + i) (k - (i + 1))
   rw [show k - (i + 1) + 1 = k - i by omega, show at' + i + 1 = at' + (i + 1) by omega] at hh
   have hx := leVal_lt B (at' + (i + 1)) (k - (i + 1))
   have hp : 2 ^ (8 * (k - (i + 1))) ≤ 2 ^ 56 := Nat.pow_le_pow_right (by decide) (by omega)
   have hb := (B.getD (at' + i) 0).toNat_lt
   have z1 : IntKind.u64.wrap (256 * (leVal B (at' + (i + 1)) (k - (i + 1)) : Int)) = 256 * (leVal B (at' + (i + 1)) (k - (i + 1)) : Int) := IntWalk.u64_in _ (by omega)
   have z2 : IntKind.u64.wrap ((B.getD (at' + i) 0).toNat : Int) = ((B.getD (at' + i) 0).toNat : Int) := IntWalk.u64_in _ (by omega)
   have z3 : IntKind.u64.wrap (256 * (leVal B (at' + (i + 1)) (k - (i + 1)) : Int) + ((B.getD (at' + i) 0).toNat : Int)) = (leVal B (at' + i) (k - i) : Int) := by rw [IntWalk.u64_in _ (by omega), hh]; omega
   have hge : (0 : Int) ≤ ((i + 1 : Nat) : Int) - 1 := by omega
   rw [hji]
   have s1 : IntKind.i64.wrap ((at' : Int) + (i : Int)) = (at' : Int) + (i : Int) := IntWalk.i64_in _ (by omega)
   have s2 : ((at' : Int) + (i : Int)).toNat = at' + i := by omega
   have s3 : (at' : Int) + (i : Int) < (n : Int) := by omega
   have s4 : 0 ≤ (at' : Int) + (i : Int) := by omega
   have s5 : IntKind.i64.wrap ((i : Int) - 1) = (i : Int) - 1 := IntWalk.i64_in _ (by omega)
   have i0 : (0 : Int) ≤ (i : Int) := by omega
   clear hh hx hp hb hji hge hc
   generalize leVal B (at' + (i + 1)) (k - (i + 1)) = X at *
   obtain ⟨Y, hY⟩ : ∃ y, y = leVal B (at' + i) (k - i) := ⟨_, rfl⟩
   rw [← hY] at z3
   have HY := Lib.hid hY
   clear hY
   generalize (B.getD (at' + i) 0).toNat = c at *
   go_wp2_with fail
   go_round
   case rel => exact ⟨i, by omega, rfl, by rw [HY.out]⟩
   case measure => first | (simp [intOf]; done) | (simp [intOf]; omega)
  ·obtain rfl : j = 0 := by omega
   have hneg : ¬ (0 : Int) ≤ ((0 : Nat) : Int) - 1 := by decide
   go_wp2_with fail
   go_ret2
   exact ⟨rfl, rfl⟩
end Frm
end
section
open Go.RowKit
namespace Frm
open Txt (kind_cases bv bv_one GotB leB leB_len leB_succ leVal leVal_lt tx)
structure Ys (w : World) (A : Option Addr) (lo hi : Nat) (L : List UInt8) (wr : World) : Prop where
 res : Blk wr w.heap.size 59 zeroF.cells
 rd : RdL wr lo hi A (L.map bv)
 below : Below w.heap.size w wr
theorem Ys.next {w wr w' : World} {A : Option Addr} {lo hi : Nat} {L : List UInt8} (S : Ys w A lo hi L wr) (hb : Below wr.heap.size wr w') : Ys w A lo hi L w' :=
 ⟨S.res.next hb, S.rd.next hb, _root_.Go.Proofs.YtekjehbkmlodmaaGreat.bt S.below hb⟩
theorem Ys.start {w : World} {A : Option Addr} {lo hi : Nat} {L : List UInt8} (h : RdL w lo hi A (L.map bv)) : Ys w A lo hi L (w.alloc (.cells zeroF.cells.toArray 59)) :=
 ⟨Blk.mk w _ _, h.alloc _, bl w _⟩
set_option maxRecDepth 100000 in
set_option maxHeartbeats 1000000 in
theorem yfirst_nil (A : Option Addr) (L : List UInt8) (N cap lo hi at' : Nat) (w : World) (h : RdL w lo hi A (L.map bv)) (hn : L.length = N) (hl : N ≤ 1000000) (hat : N ≤ at') (ha : at' ≤ 1000000) (hr : firstL (L.drop at') = (zeroF, 0, 5)) : Calls Tryz.prog 36 #[.slice A N cap, .int .i64 (at' : Int)] w (GotI w (L.drop at')) := by
 have HS := Lib.hid (Ys.start h)
 have HP := Lib.hid HS.out.res
 have HR := Lib.hid hr
 have hge : (N : Int) ≤ (at' : Int) := by omega
 clear h hn hr
 go_enter Tryz.func36, Tryz.ntmps36
 go_wp2_with (refine wpList_store_row rfl 59 _ _ rfl w.heap.size zeroF.cells.toArray rfl rfl _ _ HP.out (by kernel_rfl) rfl (fr_one zeroF) ?_)
 refine bodyPost_ret (results_cell_tmp2_row rfl _ _ w.heap.size 59 _ (0, 0) _ rfl (HP.out.row zeroF.cells) Tryz.underlying59 rfl (by kernel_rfl)) rfl ?_
 exact GotI.no HR.out (Below.row HS.out.below (by omega) _)
set_option maxRecDepth 100000 in
set_option maxHeartbeats 1000000 in
theorem yfirst_mark (A : Option Addr) (L : List UInt8) (N cap lo hi at' : Nat) (w : World) (h : RdL w lo hi A (L.map bv)) (hn : L.length = N) (hl : N ≤ 1000000) (hat : at' < L.length) (hm : L[at'] ≠ 126) (hr : firstL (L.drop at') = (zeroF, 0, 3)) : Calls Tryz.prog 36 #[.slice A N cap, .int .i64 (at' : Int)] w (GotI w (L.drop at')) := by
 have HS := Lib.hid (Ys.start h)
 have HP := Lib.hid HS.out.res
 obtain ⟨b, off, rfl, hbl, c0⟩ := rd_at h hat
 have hm1 : ((L[at'].toNat : Int) == 126) = false := beq_eq_false_iff_ne.2 (fun e => hm (UInt8.toNat_inj.1 (show L[at'].toNat = 126 by omega)))
 have hm2 : ((L[at'].toNat : Int) != 126) = true := by rw [bne, hm1]; rfl
 have HR := Lib.hid hr
 rw [hn] at hat
 have hge : ¬ (N : Int) ≤ (at' : Int) := by omega
 have i0 : (0 : Int) ≤ (at' : Int) := by omega
 have i1 : (at' : Int) < (N : Int) := by omega
 clear h hn hr hm
 generalize L[at'].toNat = m at *
 go_enter Tryz.func36, Tryz.ntmps36
 go_wp2_with (refine wpList_store_row rfl 59 _ _ rfl w.heap.size zeroF.cells.toArray rfl rfl _ _ HP.out (by kernel_rfl) rfl (fr_one zeroF) ?_)
 refine bodyPost_ret (results_cell_tmp2_row rfl _ _ w.heap.size 59 _ (0, 0) _ rfl (HP.out.row zeroF.cells) Tryz.underlying59 rfl (by kernel_rfl)) rfl ?_
 exact GotI.no HR.out (Below.row HS.out.below (by omega) _)
set_option maxRecDepth 100000 in
set_option maxHeartbeats 1000000 in
theorem yfirst_one (A : Option Addr) (L : List UInt8) (N cap lo hi at' : Nat) (w : World) (h : RdL w lo hi A (L.map bv)) (hn : L.length = N) (hl : N ≤ 1000000) (hat : at' < L.length) (hm : L[at'] = 126) (hone : N = at' + 1) (hr : firstL (L.drop at') = (zeroF, 0, 5)) : Calls Tryz.prog 36 #[.slice A N cap, .int .i64 (at' : Int)] w (GotI w (L.drop at')) := by
 have HS := Lib.hid (Ys.start h)
 have HP := Lib.hid HS.out.res
 obtain ⟨b, off, rfl, hbl, c0⟩ := rd_at h hat
 rw [hm] at c0
 have HR := Lib.hid hr
 rw [hn] at hat
 have hge : ¬ (N : Int) ≤ (at' : Int) := by omega
 have i0 : (0 : Int) ≤ (at' : Int) := by omega
 have i1 : (at' : Int) < (N : Int) := by omega
 have y1 : IntKind.i64.wrap ((at' : Int) + 1) = (at' : Int) + 1 := IntWalk.i64_in _ (by omega)
 have i2 : (N : Int) ≤ (at' : Int) + 1 := by omega
 clear h hn hr hm hone
 go_enter Tryz.func36, Tryz.ntmps36
 go_wp2_with (refine wpList_store_row rfl 59 _ _ rfl w.heap.size zeroF.cells.toArray rfl rfl _ _ HP.out (by kernel_rfl) rfl (fr_one zeroF) ?_)
 refine bodyPost_ret (results_cell_tmp2_row rfl _ _ w.heap.size 59 _ (0, 0) _ rfl (HP.out.row zeroF.cells) Tryz.underlying59 rfl (by kernel_rfl)) rfl ?_
 exact GotI.no HR.out (Below.row HS.out.below (by omega) _)
set_option maxRecDepth 100000 in
set_option maxHeartbeats 1000000 in
theorem yfirst_kind (A : Option Addr) (L : List UInt8) (N cap lo hi at' : Nat) (w : World) (h : RdL w lo hi A (L.map bv)) (hn : L.length = N) (hl : N ≤ 1000000) (hat : at' < L.length) (hm : L[at'] = 126) (hat1 : at' + 1 < L.length) (hk : numN L[at' + 1].toNat = -1) (hr : firstL (L.drop at') = (zeroF, 0, 13)) : Calls Tryz.prog 36 #[.slice A N cap, .int .i64 (at' : Int)] w (GotI w (L.drop at')) := by
 have HS := Lib.hid (Ys.start h)
 have HP := Lib.hid HS.out.res
 obtain ⟨b, off, rfl, hbl, c0⟩ := rd_at h hat
 obtain ⟨b', off', e, _, c1⟩ := rd_at h hat1
 injection e with e
 injection e with e1 e2
 subst e1 e2
 rw [hm] at c0
 have HR := Lib.hid hr
 rw [hn] at hat
 have hge : ¬ (N : Int) ≤ (at' : Int) := by omega
 have i0 : (0 : Int) ≤ (at' : Int) := by omega
 have i1 : (at' : Int) < (N : Int) := by omega
 have y1 : IntKind.i64.wrap ((at' : Int) + 1) = (at' : Int) + 1 := IntWalk.i64_in _ (by omega)
 have y2 : ((at' : Int) + 1).toNat = at' + 1 := by omega
 have i2 : ¬ (N : Int) ≤ (at' : Int) + 1 := by omega
 have i3 : (0 : Int) ≤ (at' : Int) + 1 := by omega
 have i4 : (at' : Int) + 1 < (N : Int) := by omega
 have hu := IntWalk.i64_in (L[at' + 1].toNat : Int) (by have := L[at' + 1].toNat_lt; omega)
 have hnb := fun w => ynumbers_any (L[at' + 1].toNat : Int) w
 have hnk : numK (L[at' + 1].toNat : Int) = -1 := by unfold numK; rw [Int.toNat_natCast, hk]
 rw [hnk] at hnb
 clear h hn hr hm hk hnk
 generalize L[at' + 1].toNat = m at *
 go_enter Tryz.func36, Tryz.ntmps36
 go_wp2_with fail
 refine (hnb _).mono ?_
 rintro e w1 ⟨rfl, rfl⟩
 go_wp2_with (refine wpList_store_row rfl 59 _ _ rfl w.heap.size zeroF.cells.toArray rfl rfl _ _ HP.out (by kernel_rfl) rfl (fr_one zeroF) ?_)
 refine bodyPost_ret (results_cell_tmp2_row rfl _ _ w.heap.size 59 _ (0, 0) _ rfl (HP.out.row zeroF.cells) Tryz.underlying59 rfl (by kernel_rfl)) rfl ?_
 exact GotI.no HR.out (Below.row HS.out.below (by omega) _)
set_option maxRecDepth 100000 in
set_option maxHeartbeats 1000000 in
theorem yfirst_few (A : Option Addr) (L : List UInt8) (N cap lo hi at' : Nat) (w : World) (h : RdL w lo hi A (L.map bv)) (hn : L.length = N) (hl : N ≤ 1000000) (hat : at' < L.length) (hm : L[at'] = 126) (hat1 : at' + 1 < L.length) (n : Nat) (hk : numN L[at' + 1].toNat = n) (hn3 : n ≤ 3) (hfew : L.length < at' + (12 + 4 * n)) (hr : firstL (L.drop at') = (zeroF, 0, 5)) : Calls Tryz.prog 36 #[.slice A N cap, .int .i64 (at' : Int)] w (GotI w (L.drop at')) := by
 have HS := Lib.hid (Ys.start h)
 have HP := Lib.hid HS.out.res
 obtain ⟨b, off, rfl, hbl, c0⟩ := rd_at h hat
 obtain ⟨b', off', e, _, c1⟩ := rd_at h hat1
 injection e with e
 injection e with e1 e2
 subst e1 e2
 rw [hm] at c0
 have HR := Lib.hid hr
 rw [hn] at hat hfew
 have hge : ¬ (N : Int) ≤ (at' : Int) := by omega
 have i0 : (0 : Int) ≤ (at' : Int) := by omega
 have i1 : (at' : Int) < (N : Int) := by omega
 have y1 : IntKind.i64.wrap ((at' : Int) + 1) = (at' : Int) + 1 := IntWalk.i64_in _ (by omega)
 have y2 : ((at' : Int) + 1).toNat = at' + 1 := by omega
 have i2 : ¬ (N : Int) ≤ (at' : Int) + 1 := by omega
 have i3 : (0 : Int) ≤ (at' : Int) + 1 := by omega
 have i4 : (at' : Int) + 1 < (N : Int) := by omega
 have hu := IntWalk.i64_in (L[at' + 1].toNat : Int) (by have := L[at' + 1].toNat_lt; omega)
 have hnb := fun w => ynumbers_any (L[at' + 1].toNat : Int) w
 have hnk : numK (L[at' + 1].toNat : Int) = n := by unfold numK; rw [Int.toNat_natCast, hk]
 have hsz := fun w => ysize_any (L[at' + 1].toNat : Int) n hnk hn3 w
 rw [hnk] at hnb
 obtain ⟨z, hz⟩ : ∃ z, z = 12 + 4 * n := ⟨_, rfl⟩
 rw [← hz] at hsz hfew
 have y3 : IntKind.i64.wrap ((at' : Int) + (z : Int)) = (at' : Int) + (z : Int) := IntWalk.i64_in _ (by omega)
 have i5 : (N : Int) < (at' : Int) + (z : Int) := by omega
 clear h hn hr hm hk hnk hz hfew
 generalize L[at' + 1].toNat = m at *
 go_enter Tryz.func36, Tryz.ntmps36
 go_wp2_with fail
 refine (hnb _).mono ?_
 rintro e w1 ⟨rfl, rfl⟩
 go_wp2_with fail
 refine (hsz _).mono ?_
 rintro e w1 ⟨rfl, rfl⟩
 go_wp2_with (refine wpList_store_row rfl 59 _ _ rfl w.heap.size zeroF.cells.toArray rfl rfl _ _ HP.out (by kernel_rfl) rfl (fr_one zeroF) ?_)
 refine bodyPost_ret (results_cell_tmp2_row rfl _ _ w.heap.size 59 _ (0, 0) _ rfl (HP.out.row zeroF.cells) Tryz.underlying59 rfl (by kernel_rfl)) rfl ?_
 exact GotI.no HR.out (Below.row HS.out.below (by omega) _)
end Frm
end
section
open Go.RowKit
namespace Frm
open Txt (kind_cases bv bv_one GotB leB leB_len leB_succ leVal leVal_lt tx tx_list)
theorem rd_part {w : World} {lo hi b off : Nat} {L : List UInt8} (h : RdL w lo hi (some ⟨b, off, none⟩) (L.map bv)) (a k : Nat) : RdL w lo hi (some ⟨b, off + a, none⟩) (((L.drop a).take k).map bv) := by
 rw [List.map_take, List.map_drop]
 exact (h.drop a).take k
theorem sum_same (D : List UInt8) (z : Nat) (hz4 : 4 ≤ z) (hz : z ≤ D.length) : (Crc.put (D.take (z - 4)) != D.take z) = !Crc.get (D.take (z - 4)) ((D.drop (z - 4)).take 4) := by
 have happ : D.take z = D.take (z - 4) ++ (D.drop (z - 4)).take 4 := by
  have := List.take_add (l := D) (i := z - 4) (j := 4)
  rw [show z - 4 + 4 = z by omega] at this
  exact this
 unfold Crc.put Crc.get
 rw [happ, bne]
 congr 1
 rw [Bool.eq_iff_iff, beq_iff_eq, beq_iff_eq]
 constructor
 ·intro h; exact (List.append_cancel_left h).symm
 ·intro h; rw [h]
def numsAt (L : List UInt8) (n i : Nat) : List Int := [numAt L n i 0, numAt L n i 1, numAt L n i 2]
theorem numsAt_set (L : List UInt8) (n i : Nat) (hi : i < 3) (hin : i < n) : (numsAt L n i).set i (i32of (leVal L (8 + 4 * i) 4)) = numsAt L n (i + 1) := by
 have h0 : ∀ j, numAt L n 0 j = 0 := fun j => by unfold numAt; rw [if_neg (by omega)]
 have hy : ∀ i j, j < i → j < n → numAt L n i j = i32of (leVal L (8 + 4 * j) 4) := fun i j a b => by unfold numAt; rw [if_pos ⟨a, b⟩]
 have hn : ∀ i j, ¬ j < i → numAt L n i j = 0 := fun i j a => by unfold numAt; rw [if_neg (fun h => a h.1)]
 unfold numsAt
 rcases (by omega : i = 0 ∨ i = 1 ∨ i = 2) with rfl | rfl | rfl
 ·rw [hn 0 0 (by omega), hn 0 1 (by omega), hn 0 2 (by omega), hy 1 0 (by omega) (by omega), hn (0 + 1) 1 (by omega), hn (0 + 1) 2 (by omega)]
  rfl
 ·rw [hy 1 0 (by omega) (by omega), hn 1 1 (by omega), hn 1 2 (by omega), hy (1 + 1) 0 (by omega) (by omega), hy (1 + 1) 1 (by omega) (by omega), hn (1 + 1) 2 (by omega)]
  rfl
 ·rw [hy 2 0 (by omega) (by omega), hy 2 1 (by omega) (by omega), hn 2 2 (by omega), hy (2 + 1) 0 (by omega) (by omega), hy (2 + 1) 1 (by omega) (by omega), hy (2 + 1) 2 (by omega) (by omega)]
  rfl
theorem numAt_end (L : List UInt8) (n j : Nat) (hn : n ≤ 3) : numAt L n n j = numAt L n 3 j := by
 unfold numAt
 by_cases h : j < n
 ·rw [if_pos ⟨h, h⟩, if_pos ⟨by omega, h⟩]
 ·rw [if_neg (fun a => h a.2), if_neg (fun a => h a.2)]
structure Yf (w : World) (A : Option Addr) (lo hi : Nat) (L : List UInt8) (g : Nat) (fc : List Value) (D : List UInt8) (n i : Nat) (wr : World) : Prop where
 ys : Ys w A lo hi L wr
 fr : Blk wr g 59 fc
 ar : Blk wr (g + 1) 161 ((numsAt D n i).map (.int .i32))
 lt : w.heap.size < g
 hi : hi ≤ g
theorem Yf.step {w wr : World} {A : Option Addr} {lo hi : Nat} {L : List UInt8} {g : Nat} {fc : List Value} {D : List UInt8} {n i : Nat} (S : Yf w A lo hi L g fc D n i wr) (h3 : i < 3) (hin : i < n) : Yf w A lo hi L g fc D n (i + 1) (wr.setCell ⟨g + 1, i, none⟩ (.int .i32 (i32of (leVal D (8 + 4 * i) 4)))) := by
 have hlt := S.lt
 have hhi := S.hi
 refine ⟨⟨S.ys.res.far (by show w.heap.size ≠ g + 1; omega) _, S.ys.rd.far (.inr (by show hi ≤ g + 1; omega)) _, S.ys.below.setCell (p := ⟨g + 1, i, none⟩) (by show w.heap.size ≤ g + 1; omega) _⟩, S.fr.far (by show g ≠ g + 1; omega) _, ?_, S.lt, S.hi⟩
 rw [← numsAt_set D n i h3 hin, List.map_set]
 exact S.ar.put i _
theorem Yf.num {w wr : World} {A : Option Addr} {lo hi : Nat} {L : List UInt8} {g : Nat} {fc : List Value} {D : List UInt8} {n i : Nat} (S : Yf w A lo hi L g fc D n i wr) (j : Nat) (x : Int) : Yf w A lo hi L g (fc.set j (.int .i32 x)) D n i (wr.setCell ⟨g, j, none⟩ (.int .i32 x)) := by
 have hlt := S.lt
 have hhi := S.hi
 exact ⟨⟨S.ys.res.far (by show w.heap.size ≠ g; omega) _, S.ys.rd.far (.inr hhi) _, S.ys.below.setCell (p := ⟨g, j, none⟩) (by show w.heap.size ≤ g; omega) _⟩, S.fr.put j _, S.ar.far (by show g + 1 ≠ g; omega) _, S.lt, S.hi⟩
set_option maxRecDepth 100000 in
set_option maxHeartbeats 4000000 in
theorem yfirst_main (A : Option Addr) (L : List UInt8) (N cap lo hi at' : Nat) (w : World) (h : RdL w lo hi A (L.map bv)) (hhi : hi ≤ w.heap.size) (hn : L.length = N) (hl : N ≤ 1000000) (hNc : N ≤ cap) (hat : at' < L.length) (hm : L[at'] = 126) (hat1 : at' + 1 < L.length) (n : Nat) (hk : numN L[at' + 1].toNat = n) (hn3 : n ≤ 3) (hlen : at' + (12 + 4 * n) ≤ L.length)
    (hr : (Crc.get ((L.drop at').take (8 + 4 * n)) (((L.drop at').drop (8 + 4 * n)).take 4) = true ∧ firstL (L.drop at') = (frameOf (L.drop at') L[at' + 1].toNat n 3, 12 + 4 * n, 0)) ∨ (Crc.get ((L.drop at').take (8 + 4 * n)) (((L.drop at').drop (8 + 4 * n)).take 4) = false ∧ firstL (L.drop at') = (zeroF, 0, 4))) :
    Calls Tryz.prog 36 #[.slice A N cap, .int .i64 (at' : Int)] w (GotI w (L.drop at')) := by
  have HS := Lib.hid (Ys.start h)
  obtain ⟨b, off, rfl, hbl, c0⟩ := rd_at h hat
  obtain ⟨b', off', e, _, c1⟩ := rd_at h hat1
  injection e with e
  injection e with e1 e2
  subst e1 e2
  rw [hm] at c0
  have hn' := hn
  rw [hn] at hat hlen
  have hge : ¬ (N : Int) ≤ (at' : Int) := by omega
  have i0 : (0 : Int) ≤ (at' : Int) := by omega
  have i1 : (at' : Int) < (N : Int) := by omega
  have y1 : IntKind.i64.wrap ((at' : Int) + 1) = (at' : Int) + 1 := IntWalk.i64_in _ (by omega)
  have y2 : ((at' : Int) + 1).toNat = at' + 1 := by omega
  have i2 : ¬ (N : Int) ≤ (at' : Int) + 1 := by omega
  have i3 : (0 : Int) ≤ (at' : Int) + 1 := by omega
  have i4 : (at' : Int) + 1 < (N : Int) := by omega
  have hu := IntWalk.i64_in (L[at' + 1].toNat : Int) (by have := L[at' + 1].toNat_lt; omega)
  have hnb := fun w => ynumbers_any (L[at' + 1].toNat : Int) w
  have hnk : numK (L[at' + 1].toNat : Int) = n := by unfold numK; rw [Int.toNat_natCast, hk]
  have hsz := fun w => ysize_any (L[at' + 1].toNat : Int) n hnk hn3 w
  rw [hnk] at hnb
  obtain ⟨z, hz⟩ : ∃ z, z = 12 + 4 * n := ⟨_, rfl⟩
  have hDl : (L.drop at').length = N - at' := by rw [List.length_drop, hn]
  have hss := sum_same (L.drop at') z (by omega) (by rw [hDl]; omega)
  rw [show z - 4 = 8 + 4 * n by omega] at hss
  rw [← hz] at hsz hlen hr
  have y3 : IntKind.i64.wrap ((at' : Int) + (z : Int)) = (at' : Int) + (z : Int) := IntWalk.i64_in _ (by omega)
  have y4 : IntKind.i64.wrap ((at' : Int) + (z : Int) - 4) = (at' : Int) + (z : Int) - 4 := IntWalk.i64_in _ (by omega)
  have i5 : ¬ (N : Int) < (at' : Int) + (z : Int) := by omega
  have y5 : ((at' : Int) + (z : Int)).toNat = at' + z := by omega
  have y6 : ((at' : Int) + (z : Int) - 4).toNat = at' + z - 4 := by omega
  have i6 : (at' : Int) + (z : Int) ≤ (cap : Int) := by omega
  have i7 : (at' : Int) ≤ (at' : Int) + (z : Int) := by omega
  have i8 : (at' : Int) ≤ (at' : Int) + (z : Int) - 4 := by omega
  have i9 : (at' : Int) + (z : Int) - 4 ≤ (cap : Int) := by omega
  have i10 : (0 : Int) ≤ (at' : Int) + (z : Int) := by omega
  have i11 : (0 : Int) ≤ (at' : Int) + (z : Int) - 4 := by omega
  have k1 : cap ≠ at' := by omega
  have k2 : decide ((n : Int) < 0) = false := decide_eq_false (by omega)
  have k3 : decide ((N : Int) < (at' : Int) + (z : Int)) = false := decide_eq_false (by omega)
  have hput : ∀ W, Ys w (some ⟨b, off, none⟩) lo hi L W → Calls Tryz.prog 46 #[.slice (some ⟨b, off + at', none⟩) (z - 4) (cap - at')] W fun e w' => ∃ v, e = .returned v ∧ Crc.Own w' W.heap.size v (Crc.put ((L.drop at').take (8 + 4 * n))) ∧ Below W.heap.size W w' := fun W S => by
    have hla : ((L.drop at').take (8 + 4 * n)).length = z - 4 := by rw [List.length_take, hDl]; omega
    have := Crc.rput_any (some ⟨b, off + at', none⟩) ((L.drop at').take (8 + 4 * n)) (cap - at') W (rd_part S.rd at' (8 + 4 * n)).bytes (fun h => by cases h) (by omega)
    rw [hla] at this
    exact this
  have hcv : ∀ W, Ys w (some ⟨b, off, none⟩) lo hi L W → (convert 35 9 (.slice (some ⟨b, off + at', none⟩) z (cap - at'))).run Tryz.prog W = .ok (.string (tx ((L.drop at').take z))) W := fun W S =>
    Txt.conv_bytes (by rw [List.length_take, hDl]; omega) (rd_part S.rd at' z) (fun h => by cases h)
  obtain ⟨P, hP⟩ : ∃ l, l = Crc.put ((L.drop at').take (8 + 4 * n)) := ⟨_, rfl⟩
  obtain ⟨Z, hZ⟩ : ∃ l, l = (L.drop at').take z := ⟨_, rfl⟩
  have hPl : P.length = z := by
    rw [hP]
    unfold Crc.put
    rw [List.length_append, List.length_take, hDl, Crc.le4_len]
    omega
  rw [← hP] at hput hss
  rw [← hZ] at hcv hss
  have tP := tx_list P
  have tZ := tx_list Z
  have HZ := Lib.hid hz
  have Hlen := Lib.hid (show at' + z ≤ N from hlen)
  have HD := Lib.hid hDl
  have Hn := Lib.hid hn'
  have HPl := Lib.hid hPl
  obtain ⟨D, hD⟩ : ∃ d, d = L.drop at' := ⟨_, rfl⟩
  have hget : ∀ (a k : Nat), a + k ≤ z → k ≤ 8 → ∀ W, Ys w (some ⟨b, off, none⟩) lo hi L W → Calls Tryz.prog 64 #[.slice (some ⟨b, off, none⟩) N cap, .int .i64 ((at' + a : Nat) : Int), .int .i64 (k : Int)] W fun e w' => e = .returned (.tuple #[.int .u64 (leVal D a k : Int), .int .i64 0]) ∧ W = w' := fun a k ha hk W S => by
    rw [hD, ← leVal_drop]
    exact yget_ok (some ⟨b, off, none⟩) L N cap (at' + a) k lo hi W S.rd hn' hk (by omega) hl
  have HGet := Lib.hid hget
  rw [← hD] at hss hr ⊢
  have hm2 : L[at' + 1].toNat < 256 := L[at' + 1].toNat_lt
  clear h hn hm hk hnk hlen hDl hP hZ hPl hz hget hn' hD
  generalize L[at' + 1].toNat = m at *
  have HR := Lib.hid hr
  clear hr
  generalize Crc.get (D.take (8 + 4 * n)) ((D.drop (8 + 4 * n)).take 4) = gt at *
  cases gt
  case false =>
    have hss2 : (P != Z) = true := hss
    have hss1 : (P == Z) = false := by cases h : (P == Z) with | false => rfl | true => rw [bne, h] at hss2; cases hss2
    have HR2 : Hid (firstL D = (zeroF, 0, 4)) := Lib.hid (by
      rcases HR.out with ⟨h, _⟩ | ⟨_, h⟩
      · cases h
      · exact h)
    clear hss HR
    have w1 : at' + z - 4 - at' = z - 4 := by omega
    have w2 : at' + z - at' = z := by omega
    go_enter Tryz.func36, Tryz.ntmps36
    go_wp2_with fail
    refine (hnb _).mono ?_
    rintro e w1 ⟨rfl, rfl⟩
    go_wp2_with fail
    refine (hsz _).mono ?_
    rintro e w1 ⟨rfl, rfl⟩
    go_wp2_with fail
    have hY0 : Ys w (some ⟨b, off, none⟩) lo hi L (w.alloc (.cells #[.int .i64 0, .int .u16 0, .int .u32 0, .int .i32 0, .int .i32 0, .int .i32 0] 59)).drew := HS.out.next (Below.refl _ _).drew
    have hcv0 := hcv _ hY0
    go_region_with (go_at_call 46; (with_reducible refine (hput _ hY0).mono ?_); rintro e w5 ⟨v5, rfl, hown5, hb5⟩; have hown6 : w5.ownsRow _ 5 1 v5 P.length (P.map bv) := hown5; rw [HPl.out] at hown6; obtain ⟨A5, cap5, rfl, hrd5, _, _, hA5⟩ := own_rd hown6; have hcp := Txt.conv_bytes HPl.out hrd5 hA5; clear hown5 hown6 hrd5 hA5; have hY5 := hY0.next hb5; have hcv5 := hcv w5 hY5)
    all_goals
      have HS2 := Lib.hid hY5
      have HP := Lib.hid HS2.out.res
      clear HS hput hcv hcv0 hcv5 hcp hY0 hY5
      go_wp2_with (refine wpList_store_row rfl 59 _ _ rfl w.heap.size zeroF.cells.toArray rfl rfl _ _ HP.out (by kernel_rfl) rfl (fr_one zeroF) ?_)
      refine bodyPost_ret (results_cell_tmp2_row rfl _ _ w.heap.size 59 _ (0, 0) _ rfl (HP.out.row zeroF.cells) Tryz.underlying59 rfl (by kernel_rfl)) rfl ?_
      exact GotI.no HR2.out (Below.row HS2.out.below (by omega) _)
  case true =>
    have hss2 : (P != Z) = false := hss
    have hss1 : (P == Z) = true := by cases h : (P == Z) with | true => rfl | false => rw [bne, h] at hss2; cases hss2
    have HR2 : Hid (firstL D = (frameOf D m n 3, z, 0)) := Lib.hid (by
      rcases HR.out with ⟨_, h⟩ | ⟨h, _⟩
      · rw [h, HZ.out]
      · cases h)
    clear hss HR
    have hg2 : ∀ W, Ys w (some ⟨b, off, none⟩) lo hi L W → Calls Tryz.prog 64 #[.slice (some ⟨b, off, none⟩) N cap, .int .i64 ((at' : Int) + 2), .int .i64 2] W fun e w' => e = .returned (.tuple #[.int .u64 (leVal D 2 2 : Int), .int .i64 0]) ∧ W = w' := fun W S => HGet.out 2 2 (by have := HZ.out; omega) (by decide) W S
    have hg4 : ∀ W, Ys w (some ⟨b, off, none⟩) lo hi L W → Calls Tryz.prog 64 #[.slice (some ⟨b, off, none⟩) N cap, .int .i64 ((at' : Int) + 4), .int .i64 4] W fun e w' => e = .returned (.tuple #[.int .u64 (leVal D 4 4 : Int), .int .i64 0]) ∧ W = w' := fun W S => HGet.out 4 4 (by have := HZ.out; omega) (by decide) W S
    have x1 : IntKind.i64.wrap ((at' : Int) + 2) = (at' : Int) + 2 := IntWalk.i64_in _ (by omega)
    have x2 : IntKind.i64.wrap ((at' : Int) + 4) = (at' : Int) + 4 := IntWalk.i64_in _ (by omega)
    have x3 : IntKind.i64.wrap ((at' : Int) + 8) = (at' : Int) + 8 := IntWalk.i64_in _ (by omega)
    have q2 := leVal_lt D 2 2
    have q4 := leVal_lt D 4 4
    have u2 : IntKind.u16.wrap (leVal D 2 2 : Int) = (leVal D 2 2 : Int) := IntWalk.u16_in _ (by omega)
    have u4 : IntKind.u32.wrap (leVal D 4 4 : Int) = (leVal D 4 4 : Int) := IntWalk.u32_in _ (by omega)
    clear q2 q4
    have w1 : at' + z - 4 - at' = z - 4 := by omega
    have w2 : at' + z - at' = z := by omega
    go_enter Tryz.func36, Tryz.ntmps36
    go_wp2_with fail
    refine (hnb _).mono ?_
    rintro e w1 ⟨rfl, rfl⟩
    go_wp2_with fail
    refine (hsz _).mono ?_
    rintro e w1 ⟨rfl, rfl⟩
    go_wp2_with fail
    go_cut [70] (fun s wx => s = .bool false ∧ Ys w (some ⟨b, off, none⟩) lo hi L wx)
    case first =>
     have hY0 : Ys w (some ⟨b, off, none⟩) lo hi L (w.alloc (.cells #[.int .i64 0, .int .u16 0, .int .u32 0, .int .i32 0, .int .i32 0, .int .i32 0] 59)).drew := HS.out.next (Below.refl _ _).drew
     have hcv0 := hcv _ hY0
     go_region_with (go_at_call 46; (with_reducible refine (hput _ hY0).mono ?_); rintro e w5 ⟨v5, rfl, hown5, hb5⟩; have hown6 : w5.ownsRow _ 5 1 v5 P.length (P.map bv) := hown5; rw [HPl.out] at hown6; obtain ⟨A5, cap5, rfl, hrd5, _, _, hA5⟩ := own_rd hown6; have hcp := Txt.conv_bytes HPl.out hrd5 hA5; clear hown5 hown6 hrd5 hA5; have hY5 := hY0.next hb5; have hcv5 := hcv w5 hY5)
     all_goals
       have HS2 := Lib.hid hY5
       clear HS hput hcv hcv0 hcv5 hcp hY0 hY5
       go_wp2_with fail
       go_meet
       exact ⟨rfl, HS2.out⟩
    obtain ⟨rfl, hs2⟩ := hcut
    have HS2 := Lib.hid hs2
    clear HS hput hcv hs2 hss1 hss2 tP tZ c0 c1 i6 i7 i8 i9 i10 i11 y5 y6 y4 w1 w2
    go_wp2_with fail
    (with_reducible refine (hg2 _ HS2.out).mono ?_)
    rintro e w6 ⟨rfl, rfl⟩
    go_wp2_with fail
    (with_reducible refine (hg4 _ HS2.out).mono ?_)
    rintro e w6 ⟨rfl, rfl⟩
    clear hg2 hg4
    have hYf : Yf w (some ⟨b, off, none⟩) lo hi L wc.heap.size [.int .i64 (m : Int), .int .u16 (leVal D 2 2 : Int), .int .u32 (leVal D 4 4 : Int), .int .i32 0, .int .i32 0, .int .i32 0] D n 0 ((wc.alloc (.cells #[.int .i64 (m : Int), .int .u16 (leVal D 2 2 : Int), .int .u32 (leVal D 4 4 : Int), .int .i32 0, .int .i32 0, .int .i32 0] 59)).alloc (.cells #[.int .i32 0, .int .i32 0, .int .i32 0] 161)) := by
      have hz0 : numsAt D n 0 = [0, 0, 0] := by unfold numsAt numAt; rw [if_neg (by omega), if_neg (by omega), if_neg (by omega)]
      refine ⟨(HS2.out.next (bl _ _)).next (bl _ _), (Blk.mk wc 59 _).alloc _, ?_, HS2.out.res.lt, Nat.le_trans hhi HS2.out.below.size⟩
      rw [hz0]
      have := Blk.mk (wc.alloc (.cells #[.int .i64 (m : Int), .int .u16 (leVal D 2 2 : Int), .int .u32 (leVal D 4 4 : Int), .int .i32 0, .int .i32 0, .int .i32 0] 59)) 161 [.int .i32 0, .int .i32 0, .int .i32 0]
      simpa using this
    have HY := Lib.hid hYf
    clear hYf HS2
    go_wp2_with fail
    generalize wc.heap.size = g at *
    have hfr0 : frameOf D m n 3 = ⟨m, leVal D 2 2, leVal D 4 4, numAt D n 3 0, numAt D n 3 1, numAt D n 3 2⟩ := rfl
    rw [hfr0] at HR2
    clear hfr0
    generalize leVal D 2 2 = x1 at *
    generalize leVal D 4 4 = x2 at *
    go_loopw [15] (fun u wr => ∃ i : Nat, i ≤ n ∧ u = .int .i64 (i : Int) ∧ Yf w (some ⟨b, off, none⟩) lo hi L g [.int .i64 (m : Int), .int .u16 (x1 : Int), .int .u32 (x2 : Int), .int .i32 0, .int .i32 0, .int .i32 0] D n i wr) (fun u _ => n - (intOf u).toNat)
    case atStart => exact ⟨0, by omega, rfl, HY.out⟩
    case round =>
      clear HY
      obtain ⟨i, hin, rfl, hy⟩ := hrel
      have HY := Lib.hid hy
      clear hy
      by_cases hlt : i < n
      · have hltI : (i : Int) < (n : Int) := by omega
        have h0i : (0 : Int) ≤ (i : Int) := by omega
        have hi3 : (i : Int) < 3 := by omega
        have q := leVal_lt D (8 + 4 * i) 4
        have v4 : IntKind.u32.wrap (leVal D (8 + 4 * i) 4 : Int) = (leVal D (8 + 4 * i) 4 : Int) := IntWalk.u32_in _ (by omega)
        have v5 : IntKind.i32.wrap (leVal D (8 + 4 * i) 4 : Int) = i32of (leVal D (8 + 4 * i) 4) := rfl
        have hc : ∀ W, Ys w (some ⟨b, off, none⟩) lo hi L W → Calls Tryz.prog 64 #[.slice (some ⟨b, off, none⟩) N cap, .int .i64 ((at' : Int) + 8 + 4 * (i : Int)), .int .i64 4] W fun e w' => e = .returned (.tuple #[.int .u64 (leVal D (8 + 4 * i) 4 : Int), .int .i64 0]) ∧ W = w' := fun W S => by
          have := HGet.out (8 + 4 * i) 4 (by have := HZ.out; omega) (by decide) W S
          rw [show ((at' + (8 + 4 * i) : Nat) : Int) = (at' : Int) + 8 + 4 * (i : Int) by omega] at this
          exact this
        have s1 : IntKind.i64.wrap (4 * (i : Int)) = 4 * (i : Int) := IntWalk.i64_in _ (by omega)
        have s2 : IntKind.i64.wrap ((at' : Int) + 8 + 4 * (i : Int)) = (at' : Int) + 8 + 4 * (i : Int) := IntWalk.i64_in _ (by omega)
        have hst := HY.out.step (by omega) hlt
        have HSt := Lib.hid hst
        have hl3 : i < ((numsAt D n i).map (Value.int .i32)).length := by show i < 3; omega
        have cx : wr.cell? ⟨g + 1, i, none⟩ = some (((numsAt D n i).map (Value.int .i32))[i]'hl3) := by rw [HY.out.ar.cell, List.getElem?_eq_getElem hl3]
        have fx := HY.out.ar.free i
        clear hst q
        generalize leVal D (8 + 4 * i) 4 = y at *
        generalize i32of y = y32 at *
        generalize ((numsAt D n i).map (Value.int .i32))[i]'hl3 = oldv at *
        go_wp2_with fail
        refine (hnb _).mono ?_
        rintro e w5 ⟨rfl, rfl⟩
        go_wp2_with fail
        (with_reducible refine (hc _ HY.out.ys).mono ?_)
        rintro e w6 ⟨rfl, rfl⟩
        clear hc
        go_wp2_with fail
        go_roundw
        case rel => exact ⟨i + 1, by omega, by go_num, HSt.out⟩
        case measure => first | (simp [intOf]; done) | (simp [intOf]; omega)
      · obtain rfl : i = n := by omega
        have hge : ¬ (i : Int) < (i : Int) := by omega
        have har := HY.out.ar
        have hn0 := numAt_end D i 0 hn3
        have hn1 := numAt_end D i 1 hn3
        have hn2 := numAt_end D i 2 hn3
        have a0 : wr.cell? ⟨g + 1, 0, none⟩ = some (.int .i32 (numAt D i 3 0)) := by rw [← hn0]; exact har.cell 0
        have a1 : wr.cell? ⟨g + 1, 1, none⟩ = some (.int .i32 (numAt D i 3 1)) := by rw [← hn1]; exact har.cell 1
        have a2 : wr.cell? ⟨g + 1, 2, none⟩ = some (.int .i32 (numAt D i 3 2)) := by rw [← hn2]; exact har.cell 2
        clear hn0 hn1 hn2 har
        generalize numAt D i 3 0 = z0 at *
        generalize numAt D i 3 1 = z1 at *
        generalize numAt D i 3 2 = z2 at *
        have Y1 := HY.out.num 3 z0
        have Y2 := Y1.num 4 z1
        have Y3 := Y2.num 5 z2
        have HY3 := Lib.hid Y3
        have f3 := HY.out.fr.free 3
        have f4 := HY.out.fr.free 4
        have f5 := HY.out.fr.free 5
        have c0' : wr.cell? ⟨g, 0, none⟩ = some (.int .i64 (m : Int)) := HY.out.fr.cell 0
        have c1' : wr.cell? ⟨g, 1, none⟩ = some (.int .u16 (x1 : Int)) := HY.out.fr.cell 1
        have c2' : wr.cell? ⟨g, 2, none⟩ = some (.int .u32 (x2 : Int)) := HY.out.fr.cell 2
        have c3' : wr.cell? ⟨g, 3, none⟩ = some (.int .i32 0) := HY.out.fr.cell 3
        have c4' : wr.cell? ⟨g, 4, none⟩ = some (.int .i32 0) := HY.out.fr.cell 4
        have c5' : wr.cell? ⟨g, 5, none⟩ = some (.int .i32 0) := HY.out.fr.cell 5
        have HP := Lib.hid HY3.out.ys.res
        have hone : ([.int .i64 (m : Int), .int .u16 (x1 : Int), .int .u32 (x2 : Int), .int .i32 z0, .int .i32 z1, .int .i32 z2] : List Value).toArray.all (·.oneCell') = true := by simp [Value.oneCell']
        have HO2 := Lib.hid hone
        clear Y1 Y2 Y3 hone HY
        go_wp2_with fail
        refine (hnb _).mono ?_
        rintro e w5 ⟨rfl, rfl⟩
        go_wp2_with (refine wpList_store_row rfl 59 _ _ rfl w.heap.size [.int .i64 (m : Int), .int .u16 (x1 : Int), .int .u32 (x2 : Int), .int .i32 z0, .int .i32 z1, .int .i32 z2].toArray rfl rfl _ _ HP.out (by kernel_rfl) rfl HO2.out ?_)
        refine bodyPost_ret (results_cell_tmp2_row rfl _ _ w.heap.size 59 _ (0, 0) _ rfl (HP.out.row [.int .i64 (m : Int), .int .u16 (x1 : Int), .int .u32 (x2 : Int), .int .i32 z0, .int .i32 z1, .int .i32 z2]) Tryz.underlying59 rfl (by kernel_rfl)) rfl ?_
        exact ⟨by rw [HR2.out]; rfl, Below.row HY3.out.ys.below (by omega) _⟩
theorem yfirst_any (A : Option Addr) (L : List UInt8) (N cap lo hi at' : Nat) (w : World) (h : RdL w lo hi A (L.map bv)) (hhi : hi ≤ w.heap.size) (hn : L.length = N) (hl : N ≤ 1000000) (hNc : N ≤ cap) (ha : at' ≤ 1000000) : Calls Tryz.prog 36 #[.slice A N cap, .int .i64 (at' : Int)] w (GotI w (L.drop at')) := by
 have hdl : (L.drop at').length = N - at' := by rw [List.length_drop, hn]
 rcases first_cases (L.drop at') with ⟨h1, h2⟩ | ⟨h0, hr⟩
 ·have : N ≤ at' := by rw [h1] at hdl; simp at hdl; omega
  exact yfirst_nil A L N cap lo hi at' w h hn hl this ha h2
 ·have hat : at' < L.length := by omega
  have e0 : (L.drop at')[0] = L[at'] := by rw [List.getElem_drop]; rfl
  rw [e0] at hr
  rcases hr with ⟨h1, h2⟩ | ⟨hm, ⟨h1, h2⟩ | ⟨hl1, hr⟩⟩
  ·exact yfirst_mark A L N cap lo hi at' w h hn hl hat h1 h2
  ·exact yfirst_one A L N cap lo hi at' w h hn hl hat hm (by omega) h2
  ·have hat1 : at' + 1 < L.length := by omega
   have e1 : (L.drop at')[1] = L[at' + 1] := by rw [List.getElem_drop]
   rw [e1] at hr
   rcases hr with ⟨h1, h2⟩ | ⟨n, hk, hn3, _, _, ⟨h1, h2⟩ | ⟨hle, hr⟩⟩
   ·exact yfirst_kind A L N cap lo hi at' w h hn hl hat hm hat1 h1 h2
   ·exact yfirst_few A L N cap lo hi at' w h hn hl hat hm hat1 n hk hn3 (by omega) h2
   ·exact yfirst_main A L N cap lo hi at' w h hhi hn hl hNc hat hm hat1 n hk hn3 (by omega) hr
end Frm
end
end Go.Proofs.YtekjehbkmlodmaaGreat
