/-
  The walk of the reference's First: what bytes begin with from a place on: no frame.
-/
import Derived.Test.YtijijfggppnbpaaFrmG
namespace Go.Proofs.Ytijijfggppnbpaa
open Go.RowKit
set_option linter.unusedVariables false
namespace Frm
open Txt (kind_cases bv bv_one GotB leB leB_len leB_succ leVal leVal_lt tx)

/-- what the reference's First has laid: its result; the bytes -/
structure Ys (w : World) (A : Option Addr) (lo hi : Nat) (L : List UInt8) (wr : World) : Prop where
  res : Blk wr w.heap.size 25 zeroF.cells
  rd : RdL wr lo hi A (L.map bv)
  below : Below w.heap.size w wr
theorem Ys.next {w wr w' : World} {A : Option Addr} {lo hi : Nat} {L : List UInt8} (S : Ys w A lo hi L wr) (hb : Below wr.heap.size wr w') : Ys w A lo hi L w' :=
  ⟨S.res.next hb, S.rd.next hb, _root_.Go.Proofs.Ytijijfggppnbpaa.bt S.below hb⟩
theorem Ys.start {w : World} {A : Option Addr} {lo hi : Nat} {L : List UInt8} (h : RdL w lo hi A (L.map bv)) : Ys w A lo hi L (w.alloc (.cells zeroF.cells.toArray 25)) :=
  ⟨Blk.mk w _ _, h.alloc _, bl w _⟩
set_option maxRecDepth 100000 in
set_option maxHeartbeats 1000000 in
theorem yfirst_nil (A : Option Addr) (L : List UInt8) (N cap lo hi at' : Nat) (w : World) (h : RdL w lo hi A (L.map bv)) (hn : L.length = N) (hl : N ≤ 1000000) (hat : N ≤ at') (ha : at' ≤ 1000000) (hr : firstL (L.drop at') = (zeroF, 0, 5)) : Calls Try.prog 20 #[.slice A N cap, .int .i64 (at' : Int)] w (GotI w (L.drop at')) := by
  have HS := Lib.hid (Ys.start h)
  have HP := Lib.hid HS.out.res
  have HR := Lib.hid hr
  have hge : (N : Int) ≤ (at' : Int) := by omega
  clear h hn hr
  go_enter Try.func20, Try.ntmps20
  go_wp2_with (refine wpList_store_row rfl 25 _ _ rfl w.heap.size zeroF.cells.toArray rfl rfl _ _ HP.out (by kernel_rfl) rfl (fr_one zeroF) ?_)
  refine bodyPost_ret (results_cell_tmp2_row rfl _ _ w.heap.size 25 _ (0, 0) _ rfl (HP.out.row zeroF.cells) Try.underlying25 rfl (by kernel_rfl)) rfl ?_
  exact GotI.no HR.out (Below.row HS.out.below (by omega) _)
set_option maxRecDepth 100000 in
set_option maxHeartbeats 1000000 in
theorem yfirst_mark (A : Option Addr) (L : List UInt8) (N cap lo hi at' : Nat) (w : World) (h : RdL w lo hi A (L.map bv)) (hn : L.length = N) (hl : N ≤ 1000000) (hat : at' < L.length) (hm : L[at'] ≠ 126) (hr : firstL (L.drop at') = (zeroF, 0, 3)) : Calls Try.prog 20 #[.slice A N cap, .int .i64 (at' : Int)] w (GotI w (L.drop at')) := by
  have HS := Lib.hid (Ys.start h)
  have HP := Lib.hid HS.out.res
  obtain ⟨b, off, rfl, hbl, c0⟩ := rd_at h hat
  have hm1 : ((L[at'].toNat : Int) == 126) = false := beq_eq_false_iff_ne.2 (fun e => hm (UInt8.toNat_inj.1 (show L[at'].toNat = 126 by omega)))
  have hm2 : ((L[at'].toNat : Int) != 126) = true := by rw [bne, hm1]; rfl
  have HR := Lib.hid hr
  rw [hn] at hat
  have hge : ¬ (N : Int) ≤ (at' : Int) := by omega
  have i0 : (0 : Int) ≤ (at' : Int) := by omega
  have i1 : (at' : Int) < (N : Int) := by omega
  clear h hn hr hm
  generalize L[at'].toNat = m at *
  go_enter Try.func20, Try.ntmps20
  go_wp2_with (refine wpList_store_row rfl 25 _ _ rfl w.heap.size zeroF.cells.toArray rfl rfl _ _ HP.out (by kernel_rfl) rfl (fr_one zeroF) ?_)
  refine bodyPost_ret (results_cell_tmp2_row rfl _ _ w.heap.size 25 _ (0, 0) _ rfl (HP.out.row zeroF.cells) Try.underlying25 rfl (by kernel_rfl)) rfl ?_
  exact GotI.no HR.out (Below.row HS.out.below (by omega) _)
set_option maxRecDepth 100000 in
set_option maxHeartbeats 1000000 in
theorem yfirst_one (A : Option Addr) (L : List UInt8) (N cap lo hi at' : Nat) (w : World) (h : RdL w lo hi A (L.map bv)) (hn : L.length = N) (hl : N ≤ 1000000) (hat : at' < L.length) (hm : L[at'] = 126) (hone : N = at' + 1) (hr : firstL (L.drop at') = (zeroF, 0, 5)) : Calls Try.prog 20 #[.slice A N cap, .int .i64 (at' : Int)] w (GotI w (L.drop at')) := by
  have HS := Lib.hid (Ys.start h)
  have HP := Lib.hid HS.out.res
  obtain ⟨b, off, rfl, hbl, c0⟩ := rd_at h hat
  rw [hm] at c0
  have HR := Lib.hid hr
  rw [hn] at hat
  have hge : ¬ (N : Int) ≤ (at' : Int) := by omega
  have i0 : (0 : Int) ≤ (at' : Int) := by omega
  have i1 : (at' : Int) < (N : Int) := by omega
  have y1 : IntKind.i64.wrap ((at' : Int) + 1) = (at' : Int) + 1 := IntWalk.i64_in _ (by omega)
  have i2 : (N : Int) ≤ (at' : Int) + 1 := by omega
  clear h hn hr hm hone
  go_enter Try.func20, Try.ntmps20
  go_wp2_with (refine wpList_store_row rfl 25 _ _ rfl w.heap.size zeroF.cells.toArray rfl rfl _ _ HP.out (by kernel_rfl) rfl (fr_one zeroF) ?_)
  refine bodyPost_ret (results_cell_tmp2_row rfl _ _ w.heap.size 25 _ (0, 0) _ rfl (HP.out.row zeroF.cells) Try.underlying25 rfl (by kernel_rfl)) rfl ?_
  exact GotI.no HR.out (Below.row HS.out.below (by omega) _)
set_option maxRecDepth 100000 in
set_option maxHeartbeats 1000000 in
theorem yfirst_kind (A : Option Addr) (L : List UInt8) (N cap lo hi at' : Nat) (w : World) (h : RdL w lo hi A (L.map bv)) (hn : L.length = N) (hl : N ≤ 1000000) (hat : at' < L.length) (hm : L[at'] = 126) (hat1 : at' + 1 < L.length) (hk : numN L[at' + 1].toNat = -1) (hr : firstL (L.drop at') = (zeroF, 0, 13)) : Calls Try.prog 20 #[.slice A N cap, .int .i64 (at' : Int)] w (GotI w (L.drop at')) := by
  have HS := Lib.hid (Ys.start h)
  have HP := Lib.hid HS.out.res
  obtain ⟨b, off, rfl, hbl, c0⟩ := rd_at h hat
  obtain ⟨b', off', e, _, c1⟩ := rd_at h hat1
  injection e with e
  injection e with e1 e2
  subst e1 e2
  rw [hm] at c0
  have HR := Lib.hid hr
  rw [hn] at hat
  have hge : ¬ (N : Int) ≤ (at' : Int) := by omega
  have i0 : (0 : Int) ≤ (at' : Int) := by omega
  have i1 : (at' : Int) < (N : Int) := by omega
  have y1 : IntKind.i64.wrap ((at' : Int) + 1) = (at' : Int) + 1 := IntWalk.i64_in _ (by omega)
  have y2 : ((at' : Int) + 1).toNat = at' + 1 := by omega
  have i2 : ¬ (N : Int) ≤ (at' : Int) + 1 := by omega
  have i3 : (0 : Int) ≤ (at' : Int) + 1 := by omega
  have i4 : (at' : Int) + 1 < (N : Int) := by omega
  have hu := IntWalk.i64_in (L[at' + 1].toNat : Int) (by have := L[at' + 1].toNat_lt; omega)
  have hnb := fun w => ynumbers_any (L[at' + 1].toNat : Int) w
  have hnk : numK (L[at' + 1].toNat : Int) = -1 := by unfold numK; rw [Int.toNat_natCast, hk]
  rw [hnk] at hnb
  clear h hn hr hm hk hnk
  generalize L[at' + 1].toNat = m at *
  go_enter Try.func20, Try.ntmps20
  go_wp2_with fail
  refine (hnb _).mono ?_
  rintro e w1 ⟨rfl, rfl⟩
  go_wp2_with (refine wpList_store_row rfl 25 _ _ rfl w.heap.size zeroF.cells.toArray rfl rfl _ _ HP.out (by kernel_rfl) rfl (fr_one zeroF) ?_)
  refine bodyPost_ret (results_cell_tmp2_row rfl _ _ w.heap.size 25 _ (0, 0) _ rfl (HP.out.row zeroF.cells) Try.underlying25 rfl (by kernel_rfl)) rfl ?_
  exact GotI.no HR.out (Below.row HS.out.below (by omega) _)
set_option maxRecDepth 100000 in
set_option maxHeartbeats 1000000 in
theorem yfirst_few (A : Option Addr) (L : List UInt8) (N cap lo hi at' : Nat) (w : World) (h : RdL w lo hi A (L.map bv)) (hn : L.length = N) (hl : N ≤ 1000000) (hat : at' < L.length) (hm : L[at'] = 126) (hat1 : at' + 1 < L.length) (n : Nat) (hk : numN L[at' + 1].toNat = n) (hn3 : n ≤ 3) (hfew : L.length < at' + (12 + 4 * n)) (hr : firstL (L.drop at') = (zeroF, 0, 5)) : Calls Try.prog 20 #[.slice A N cap, .int .i64 (at' : Int)] w (GotI w (L.drop at')) := by
  have HS := Lib.hid (Ys.start h)
  have HP := Lib.hid HS.out.res
  obtain ⟨b, off, rfl, hbl, c0⟩ := rd_at h hat
  obtain ⟨b', off', e, _, c1⟩ := rd_at h hat1
  injection e with e
  injection e with e1 e2
  subst e1 e2
  rw [hm] at c0
  have HR := Lib.hid hr
  rw [hn] at hat hfew
  have hge : ¬ (N : Int) ≤ (at' : Int) := by omega
  have i0 : (0 : Int) ≤ (at' : Int) := by omega
  have i1 : (at' : Int) < (N : Int) := by omega
  have y1 : IntKind.i64.wrap ((at' : Int) + 1) = (at' : Int) + 1 := IntWalk.i64_in _ (by omega)
  have y2 : ((at' : Int) + 1).toNat = at' + 1 := by omega
  have i2 : ¬ (N : Int) ≤ (at' : Int) + 1 := by omega
  have i3 : (0 : Int) ≤ (at' : Int) + 1 := by omega
  have i4 : (at' : Int) + 1 < (N : Int) := by omega
  have hu := IntWalk.i64_in (L[at' + 1].toNat : Int) (by have := L[at' + 1].toNat_lt; omega)
  have hnb := fun w => ynumbers_any (L[at' + 1].toNat : Int) w
  have hnk : numK (L[at' + 1].toNat : Int) = n := by unfold numK; rw [Int.toNat_natCast, hk]
  have hsz := fun w => ysize_any (L[at' + 1].toNat : Int) n hnk hn3 w
  rw [hnk] at hnb
  obtain ⟨z, hz⟩ : ∃ z, z = 12 + 4 * n := ⟨_, rfl⟩
  rw [← hz] at hsz hfew
  have y3 : IntKind.i64.wrap ((at' : Int) + (z : Int)) = (at' : Int) + (z : Int) := IntWalk.i64_in _ (by omega)
  have i5 : (N : Int) < (at' : Int) + (z : Int) := by omega
  clear h hn hr hm hk hnk hz hfew
  generalize L[at' + 1].toNat = m at *
  go_enter Try.func20, Try.ntmps20
  go_wp2_with fail
  refine (hnb _).mono ?_
  rintro e w1 ⟨rfl, rfl⟩
  go_wp2_with fail
  refine (hsz _).mono ?_
  rintro e w1 ⟨rfl, rfl⟩
  go_wp2_with (refine wpList_store_row rfl 25 _ _ rfl w.heap.size zeroF.cells.toArray rfl rfl _ _ HP.out (by kernel_rfl) rfl (fr_one zeroF) ?_)
  refine bodyPost_ret (results_cell_tmp2_row rfl _ _ w.heap.size 25 _ (0, 0) _ rfl (HP.out.row zeroF.cells) Try.underlying25 rfl (by kernel_rfl)) rfl ?_
  exact GotI.no HR.out (Below.row HS.out.below (by omega) _)
end Frm
end Go.Proofs.Ytijijfggppnbpaa
