/-
  The walk of frame.First: where bytes begin with no frame.
-/
import Derived.Test.YtijijfggppnbpaaFrmF
namespace Go.Proofs.Ytijijfggppnbpaa
open Go.RowKit
set_option linter.unusedVariables false
namespace Frm
open Txt (kind_cases bv bv_one GotB leB leB_len leB_succ leVal leVal_lt tx)

/-- what First has laid: its argument's box, its result; the bytes -/
structure Fs (w : World) (A : Option Addr) (N cap lo hi : Nat) (L : List UInt8) (wr : World) : Prop where
  box : Blk wr w.heap.size 26 [.slice A N cap]
  res : Blk wr (w.heap.size + 1) 25 zeroF.cells
  rd : RdL wr lo hi A (L.map bv)
  below : Below w.heap.size w wr
theorem Fs.next {w wr w' : World} {A : Option Addr} {N cap lo hi : Nat} {L : List UInt8} (S : Fs w A N cap lo hi L wr) (hb : Below wr.heap.size wr w') : Fs w A N cap lo hi L w' :=
  ⟨S.box.next hb, S.res.next hb, S.rd.next hb, _root_.Go.Proofs.Ytijijfggppnbpaa.bt S.below hb⟩
theorem Fs.start {w : World} {A : Option Addr} {N cap lo hi : Nat} {L : List UInt8} (h : RdL w lo hi A (L.map bv)) : Fs w A N cap lo hi L ((w.alloc (.cells [.slice A N cap].toArray 26)).alloc (.cells zeroF.cells.toArray 25)) := by
  refine ⟨(Blk.mk w _ _).alloc _, ?_, (h.alloc _).alloc _, _root_.Go.Proofs.Ytijijfggppnbpaa.bt (bl w _) (bl _ _)⟩
  have := Blk.mk (w.alloc (.cells [.slice A N cap].toArray 26)) 25 zeroF.cells
  simpa using this
theorem Fs.at {w wr : World} {A : Option Addr} {N cap lo hi : Nat} {L : List UInt8} (S : Fs w A N cap lo hi L wr) {i : Nat} (hi' : i < L.length) : ∃ b off, A = some ⟨b, off, none⟩ ∧ wr.cell? ⟨b, off + i, none⟩ = some (.int .u8 (L[i].toNat : Int)) := by
  obtain ⟨b, off, e, _, _, _, hc⟩ := S.rd.some (by rw [List.length_map]; omega)
  exact ⟨b, off, e, hc i _ (by rw [List.getElem?_map, List.getElem?_eq_getElem hi']; rfl)⟩
theorem rd_at {w : World} {A : Option Addr} {lo hi : Nat} {L : List UInt8} (S : RdL w lo hi A (L.map bv)) {i : Nat} (hi' : i < L.length) : ∃ b off, A = some ⟨b, off, none⟩ ∧ b < w.heap.size ∧ w.cell? ⟨b, off + i, none⟩ = some (.int .u8 (L[i].toNat : Int)) := by
  obtain ⟨b, off, e, _, _, hb, hc⟩ := S.some (by rw [List.length_map]; omega)
  exact ⟨b, off, e, hb, hc i _ (by rw [List.getElem?_map, List.getElem?_eq_getElem hi']; rfl)⟩
set_option maxRecDepth 100000 in
set_option maxHeartbeats 1000000 in
theorem first_nil (A : Option Addr) (L : List UInt8) (N cap lo hi : Nat) (w : World) (h : RdL w lo hi A (L.map bv)) (hn : L.length = N) (hL : L = []) (hr : firstL L = (zeroF, 0, 5)) : Calls Try.prog 18 #[.slice A N cap] w (GotI w L) := by
  have HS := Lib.hid (Fs.start (cap := cap) (N := N) h)
  have HP := Lib.hid HS.out.res
  obtain rfl : N = 0 := by rw [← hn, hL]; rfl
  have HR := Lib.hid hr
  clear h hn hL hr
  go_enter Try.func18, Try.ntmps18
  go_wp2_with (refine wpList_store_row rfl 25 _ _ rfl (w.heap.size + 1) zeroF.cells.toArray rfl rfl _ _ HP.out (by kernel_rfl) rfl (fr_one zeroF) ?_)
  refine bodyPost_ret (results_cell_tmp2_row rfl _ _ (w.heap.size + 1) 25 _ (0, 0) _ rfl (HP.out.row zeroF.cells) Try.underlying25 rfl (by kernel_rfl)) rfl ?_
  exact GotI.no HR.out (Below.row HS.out.below (by omega) _)
set_option maxRecDepth 100000 in
set_option maxHeartbeats 1000000 in
theorem first_mark (A : Option Addr) (L : List UInt8) (N cap lo hi : Nat) (w : World) (h : RdL w lo hi A (L.map bv)) (hn : L.length = N) (h0 : 0 < L.length) (hm : L[0] ≠ 126) (hr : firstL L = (zeroF, 0, 3)) : Calls Try.prog 18 #[.slice A N cap] w (GotI w L) := by
  have HS := Lib.hid (Fs.start (cap := cap) (N := N) h)
  have HP := Lib.hid HS.out.res
  obtain ⟨b, off, rfl, hbl, c0⟩ := rd_at h h0
  have hbl2 : b < w.heap.size + 1 := by omega
  rw [Nat.add_zero] at c0
  have hm1 : ((L[0].toNat : Int) == 126) = false := beq_eq_false_iff_ne.2 (fun e => hm (UInt8.toNat_inj.1 (show L[0].toNat = 126 by omega)))
  have hm2 : ((L[0].toNat : Int) != 126) = true := by rw [bne, hm1]; rfl
  rw [hn] at h0
  have n0 : ((N : Int) == 0) = false := beq_eq_false_iff_ne.2 (by omega)
  have n1 : N ≠ 0 := by omega
  have i0 : (0 : Int) < (N : Int) := by omega
  have HR := Lib.hid hr
  clear h hn hr hm
  generalize L[0].toNat = m at *
  go_enter Try.func18, Try.ntmps18
  go_wp2_with (refine wpList_store_row rfl 25 _ _ rfl (w.heap.size + 1) zeroF.cells.toArray rfl rfl _ _ HP.out (by kernel_rfl) rfl (fr_one zeroF) ?_)
  refine bodyPost_ret (results_cell_tmp2_row rfl _ _ (w.heap.size + 1) 25 _ (0, 0) _ rfl (HP.out.row zeroF.cells) Try.underlying25 rfl (by kernel_rfl)) rfl ?_
  exact GotI.no HR.out (Below.row HS.out.below (by omega) _)
set_option maxRecDepth 100000 in
set_option maxHeartbeats 1000000 in
theorem first_one (A : Option Addr) (L : List UInt8) (cap lo hi : Nat) (w : World) (h : RdL w lo hi A (L.map bv)) (hn : L.length = 1) (h0 : 0 < L.length) (hm : L[0] = 126) (hr : firstL L = (zeroF, 0, 5)) : Calls Try.prog 18 #[.slice A 1 cap] w (GotI w L) := by
  have HS := Lib.hid (Fs.start (cap := cap) (N := 1) h)
  have HP := Lib.hid HS.out.res
  obtain ⟨b, off, rfl, hbl, c0⟩ := rd_at h h0
  have hbl2 : b < w.heap.size + 1 := by omega
  rw [Nat.add_zero, hm] at c0
  have HR := Lib.hid hr
  clear h hn hr hm
  go_enter Try.func18, Try.ntmps18
  go_wp2_with (refine wpList_store_row rfl 25 _ _ rfl (w.heap.size + 1) zeroF.cells.toArray rfl rfl _ _ HP.out (by kernel_rfl) rfl (fr_one zeroF) ?_)
  refine bodyPost_ret (results_cell_tmp2_row rfl _ _ (w.heap.size + 1) 25 _ (0, 0) _ rfl (HP.out.row zeroF.cells) Try.underlying25 rfl (by kernel_rfl)) rfl ?_
  exact GotI.no HR.out (Below.row HS.out.below (by omega) _)
set_option maxRecDepth 100000 in
set_option maxHeartbeats 1000000 in
theorem first_kind (A : Option Addr) (L : List UInt8) (N cap lo hi : Nat) (w : World) (h : RdL w lo hi A (L.map bv)) (hn : L.length = N) (h0 : 0 < L.length) (hm : L[0] = 126) (h1 : 1 < L.length) (hk : numN L[1].toNat = -1) (hr : firstL L = (zeroF, 0, 13)) : Calls Try.prog 18 #[.slice A N cap] w (GotI w L) := by
  have HS := Lib.hid (Fs.start (cap := cap) (N := N) h)
  obtain ⟨b, off, rfl, hbl, c0⟩ := rd_at h h0
  have hbl2 : b < w.heap.size + 1 := by omega
  obtain ⟨b', off', e, _, c1⟩ := rd_at h h1
  injection e with e
  injection e with e1 e2
  subst e1 e2
  rw [Nat.add_zero, hm] at c0
  rw [hn] at h0 h1
  have n0 : ((N : Int) == 0) = false := beq_eq_false_iff_ne.2 (by omega)
  have n1 : ((N : Int) == 1) = false := beq_eq_false_iff_ne.2 (by omega)
  have n2 : N ≠ 0 := by omega
  have n3 : N ≠ 1 := by omega
  have i0 : (0 : Int) < (N : Int) := by omega
  have i1 : (1 : Int) < (N : Int) := by omega
  have hsz := fun w => size_any (L[1].toNat : Int) w
  have hsk : sizeK (L[1].toNat : Int) = -1 := by unfold sizeK numK; rw [Int.toNat_natCast, hk]; rfl
  rw [hsk] at hsz
  have hu := IntWalk.i64_in (L[1].toNat : Int) (by have := L[1].toNat_lt; omega)
  have HR := Lib.hid hr
  clear h hn hr hm hk hsk
  generalize L[1].toNat = m at *
  go_enter Try.func18, Try.ntmps18
  go_wp2_with fail
  refine (hsz _).mono ?_
  rintro e w1 ⟨rfl, hb⟩
  have HS1 := Lib.hid (HS.out.next hb)
  have HP := Lib.hid HS1.out.res
  clear hb HS
  go_wp2_with (refine wpList_store_row rfl 25 _ _ rfl (w.heap.size + 1) zeroF.cells.toArray rfl rfl _ _ HP.out (by kernel_rfl) rfl (fr_one zeroF) ?_)
  refine bodyPost_ret (results_cell_tmp2_row rfl _ _ (w.heap.size + 1) 25 _ (0, 0) _ rfl (HP.out.row zeroF.cells) Try.underlying25 rfl (by kernel_rfl)) rfl ?_
  exact GotI.no HR.out (Below.row HS1.out.below (by omega) _)
set_option maxRecDepth 100000 in
set_option maxHeartbeats 1000000 in
theorem first_few (A : Option Addr) (L : List UInt8) (N cap lo hi : Nat) (w : World) (h : RdL w lo hi A (L.map bv)) (hn : L.length = N) (h0 : 0 < L.length) (hm : L[0] = 126) (h1 : 1 < L.length) (n : Nat) (hk : numN L[1].toNat = n) (hn3 : n ≤ 3) (hfew : L.length < 12 + 4 * n) (hr : firstL L = (zeroF, 0, 5)) : Calls Try.prog 18 #[.slice A N cap] w (GotI w L) := by
  have HS := Lib.hid (Fs.start (cap := cap) (N := N) h)
  obtain ⟨b, off, rfl, hbl, c0⟩ := rd_at h h0
  have hbl2 : b < w.heap.size + 1 := by omega
  obtain ⟨b', off', e, _, c1⟩ := rd_at h h1
  injection e with e
  injection e with e1 e2
  subst e1 e2
  rw [Nat.add_zero, hm] at c0
  rw [hn] at h0 h1 hfew
  have n0 : ((N : Int) == 0) = false := beq_eq_false_iff_ne.2 (by omega)
  have n1 : ((N : Int) == 1) = false := beq_eq_false_iff_ne.2 (by omega)
  have n2 : N ≠ 0 := by omega
  have n3 : N ≠ 1 := by omega
  have i0 : (0 : Int) < (N : Int) := by omega
  have i1 : (1 : Int) < (N : Int) := by omega
  obtain ⟨z, hz⟩ : ∃ z, z = 12 + 4 * n := ⟨_, rfl⟩
  have hsz := fun w => size_any (L[1].toNat : Int) w
  have hsk : sizeK (L[1].toNat : Int) = (z : Int) := by unfold sizeK numK; rw [Int.toNat_natCast, hk, if_neg (by omega)]; omega
  rw [hsk] at hsz
  have hu := IntWalk.i64_in (L[1].toNat : Int) (by have := L[1].toNat_lt; omega)
  have hlt : N < z := by omega
  have hltd : decide (N < z) = true := decide_eq_true hlt
  have HR := Lib.hid hr
  clear h hn hr hm hk hsk hz hfew
  generalize L[1].toNat = m at *
  go_enter Try.func18, Try.ntmps18
  go_wp2_with fail
  refine (hsz _).mono ?_
  rintro e w1 ⟨rfl, hb⟩
  have HS1 := Lib.hid (HS.out.next hb)
  have HP := Lib.hid HS1.out.res
  have cb : w1.cell? ⟨w.heap.size, 0, none⟩ = some (.slice (some ⟨b, off, none⟩) N cap) := HS1.out.box.cell 0
  clear hb HS
  go_wp2_with (refine wpList_store_row rfl 25 _ _ rfl (w.heap.size + 1) zeroF.cells.toArray rfl rfl _ _ HP.out (by kernel_rfl) rfl (fr_one zeroF) ?_)
  refine bodyPost_ret (results_cell_tmp2_row rfl _ _ (w.heap.size + 1) 25 _ (0, 0) _ rfl (HP.out.row zeroF.cells) Try.underlying25 rfl (by kernel_rfl)) rfl ?_
  exact GotI.no HR.out (Below.row HS1.out.below (by omega) _)
end Frm
end Go.Proofs.Ytijijfggppnbpaa
