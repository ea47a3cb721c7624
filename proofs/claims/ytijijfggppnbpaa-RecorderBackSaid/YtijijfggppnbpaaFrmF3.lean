/-
  The walk of frame.First: where bytes begin with a frame, or with one whose sum is wrong.
-/
import Derived.Test.YtijijfggppnbpaaFrmF2
namespace Go.Proofs.Ytijijfggppnbpaa
open Go.RowKit
set_option linter.unusedVariables false
namespace Frm
open Txt (kind_cases bv bv_one GotB leB leB_len leB_succ leVal leVal_lt tx)

theorem four_of {t : List UInt8} (h : t.length = 4) : ∃ t0 t1 t2 t3, t = [t0, t1, t2, t3] := by
  match t, h with
  | [a, b, c, d], _ => exact ⟨a, b, c, d, rfl⟩
theorem get_z (A : Option Addr) (L : List UInt8) (cap z lo hi : Nat) (w : World) (h : RdL w lo hi A (L.map bv)) (hz : z ≤ L.length) (hz4 : 4 ≤ z) (hl : L.length ≤ 1000000) (hcap : z ≤ cap) :
    Calls Try.prog 58 #[.slice A z cap] w fun e w' => (∃ v, e = .returned (.tuple #[v, .bool (Crc.get (L.take (z - 4)) ((L.drop (z - 4)).take 4))])) ∧ Below w.heap.size w w' := by
  have hl4 : ((L.drop (z - 4)).take 4).length = 4 := by rw [List.length_take, List.length_drop]; omega
  obtain ⟨t0, t1, t2, t3, ht⟩ := four_of hl4
  have happ : L.take (z - 4) ++ [t0, t1, t2, t3] = L.take z := by
    rw [← ht]
    have := List.take_add (l := L) (i := z - 4) (j := 4)
    rw [show z - 4 + 4 = z by omega] at this
    exact this.symm
  have hb : Crc.Bytes w A (L.take (z - 4) ++ [t0, t1, t2, t3]) := by
    rw [happ]
    refine RdL.bytes (lo := lo) (hi := hi) ?_
    rw [List.map_take]
    exact h.take z
  have := Crc.get_core A (L.take (z - 4)) t0 t1 t2 t3 (z - 4) cap w (by rw [List.length_take]; omega) hb (by omega) (by omega)
  rw [show z - 4 + 4 = z by omega] at this
  rw [ht]
  exact this.mono fun e w' ⟨v, he, _, hb⟩ => ⟨⟨v, he⟩, hb⟩
set_option maxRecDepth 100000 in
set_option maxHeartbeats 1000000 in
theorem first_sum (A : Option Addr) (L : List UInt8) (N cap lo hi : Nat) (w : World) (h : RdL w lo hi A (L.map bv)) (hn : L.length = N) (hl : N ≤ 1000000) (hNc : N ≤ cap) (h0 : 0 < L.length) (hm : L[0] = 126) (h1 : 1 < L.length) (n : Nat) (hk : numN L[1].toNat = n) (hn3 : n ≤ 3) (hlen : 12 + 4 * n ≤ L.length) (hg : Crc.get (L.take (8 + 4 * n)) ((L.drop (8 + 4 * n)).take 4) = false) (hr : firstL L = (zeroF, 0, 4)) : Calls Try.prog 18 #[.slice A N cap] w (GotI w L) := by
  have HS := Lib.hid (Fs.start (cap := cap) (N := N) h)
  obtain ⟨b, off, rfl, hbl, c0⟩ := rd_at h h0
  have hbl2 : b < w.heap.size + 1 := by omega
  obtain ⟨b', off', e, _, c1⟩ := rd_at h h1
  injection e with e
  injection e with e1 e2
  subst e1 e2
  rw [Nat.add_zero, hm] at c0
  obtain ⟨z, hz⟩ : ∃ z, z = 12 + 4 * n := ⟨_, rfl⟩
  have hget := fun w h => get_z (some ⟨b, off, none⟩) L cap z lo hi w h (by omega) (by omega) (by omega) (by omega)
  rw [show z - 4 = 8 + 4 * n by omega, hg] at hget
  rw [hn] at h0 h1 hlen
  have n0 : ((N : Int) == 0) = false := beq_eq_false_iff_ne.2 (by omega)
  have n1 : ((N : Int) == 1) = false := beq_eq_false_iff_ne.2 (by omega)
  have n2 : N ≠ 0 := by omega
  have n3 : N ≠ 1 := by omega
  have i0 : (0 : Int) < (N : Int) := by omega
  have i1 : (1 : Int) < (N : Int) := by omega
  have hsz := fun w => size_any (L[1].toNat : Int) w
  have hsk : sizeK (L[1].toNat : Int) = (z : Int) := by unfold sizeK numK; rw [Int.toNat_natCast, hk, if_neg (by omega)]; omega
  rw [hsk] at hsz
  have hu := IntWalk.i64_in (L[1].toNat : Int) (by have := L[1].toNat_lt; omega)
  have hltd : decide (N < z) = false := decide_eq_false (by omega)
  have hlti : ¬ (N : Int) < (z : Int) := by omega
  have hzc : (z : Int) ≤ (cap : Int) := by omega
  have hzc2 : z ≤ cap := by omega
  have hz0 : (0 : Int) ≤ (z : Int) := by omega
  have HR := Lib.hid hr
  clear h hn hr hm hk hsk hz hlen hg
  generalize L[1].toNat = m at *
  go_enter Try.func18, Try.ntmps18
  go_wp2_with fail
  refine (hsz _).mono ?_
  rintro e w1 ⟨rfl, hb⟩
  have HS1 := Lib.hid (HS.out.next hb)
  have cb : w1.cell? ⟨w.heap.size, 0, none⟩ = some (.slice (some ⟨b, off, none⟩) N cap) := HS1.out.box.cell 0
  clear hb HS
  go_wp2_with fail
  refine (hget _ HS1.out.rd).mono ?_
  rintro e w2 ⟨⟨v, rfl⟩, hb⟩
  have HS2 := Lib.hid (HS1.out.next hb)
  have HP := Lib.hid HS2.out.res
  clear hb HS1 cb
  go_wp2_with (refine wpList_store_row rfl 25 _ _ rfl (w.heap.size + 1) zeroF.cells.toArray rfl rfl _ _ HP.out (by kernel_rfl) rfl (fr_one zeroF) ?_)
  refine bodyPost_ret (results_cell_tmp2_row rfl _ _ (w.heap.size + 1) 25 _ (0, 0) _ rfl (HP.out.row zeroF.cells) Try.underlying25 rfl (by kernel_rfl)) rfl ?_
  exact GotI.no HR.out (Below.row HS2.out.below (by omega) _)
theorem numAt_set (L : List UInt8) (k n i : Nat) (hi : i < 3) (hin : i < n) : (frameOf L k n i).cells.set (3 + i) (.int .i32 (i32of (leVal L (8 + 4 * i) 4))) = (frameOf L k n (i + 1)).cells := by
  have h0 : ∀ j, numAt L n 0 j = 0 := fun j => by unfold numAt; rw [if_neg (by omega)]
  have hy : ∀ i j, j < i → j < n → numAt L n i j = i32of (leVal L (8 + 4 * j) 4) := fun i j a b => by unfold numAt; rw [if_pos ⟨a, b⟩]
  have hn : ∀ i j, ¬ j < i → numAt L n i j = 0 := fun i j a => by unfold numAt; rw [if_neg (fun h => a h.1)]
  unfold frameOf Fr.cells
  rcases (by omega : i = 0 ∨ i = 1 ∨ i = 2) with rfl | rfl | rfl
  · rw [hn 0 0 (by omega), hn 0 1 (by omega), hn 0 2 (by omega), hy 1 0 (by omega) (by omega), hn (0 + 1) 1 (by omega), hn (0 + 1) 2 (by omega)]
    rfl
  · rw [hy 1 0 (by omega) (by omega), hn 1 1 (by omega), hn 1 2 (by omega), hy (1 + 1) 0 (by omega) (by omega), hy (1 + 1) 1 (by omega) (by omega), hn (1 + 1) 2 (by omega)]
    rfl
  · rw [hy 2 0 (by omega) (by omega), hy 2 1 (by omega) (by omega), hn 2 2 (by omega), hy (2 + 1) 0 (by omega) (by omega), hy (2 + 1) 1 (by omega) (by omega), hy (2 + 1) 2 (by omega) (by omega)]
    rfl
theorem numAt_keep (L : List UInt8) (k n i : Nat) (hin : ¬ i < n) : frameOf L k n i = frameOf L k n (i + 1) := by
  have h : ∀ j, numAt L n i j = numAt L n (i + 1) j := fun j => by
    unfold numAt
    by_cases h : j < i ∧ j < n
    · rw [if_pos h, if_pos ⟨by omega, h.2⟩]
    · rw [if_neg h, if_neg (by omega)]
  unfold frameOf
  rw [h, h, h]
/-- beside the frame that is made -/
structure Gf (w : World) (A : Option Addr) (N cap lo hi : Nat) (L : List UInt8) (g k n i : Nat) (wr : World) : Prop where
  fs : Fs w A N cap lo hi L wr
  fr : Blk wr g 25 (frameOf L k n i).cells
  lt : w.heap.size + 1 < g
  hi : hi ≤ g
theorem Gf.next {w wr w' : World} {A : Option Addr} {N cap lo hi : Nat} {L : List UInt8} {g k n i : Nat} (S : Gf w A N cap lo hi L g k n i wr) (hb : Below wr.heap.size wr w') : Gf w A N cap lo hi L g k n i w' :=
  ⟨S.fs.next hb, S.fr.next hb, S.lt, S.hi⟩
theorem Gf.step {w wr : World} {A : Option Addr} {N cap lo hi : Nat} {L : List UInt8} {g k n i : Nat} (S : Gf w A N cap lo hi L g k n i wr) (h3 : i < 3) (hin : i < n) : Gf w A N cap lo hi L g k n (i + 1) (wr.setCell ⟨g, 3 + i, none⟩ (.int .i32 (i32of (leVal L (8 + 4 * i) 4)))) := by
  have hlt := S.lt
  refine ⟨⟨S.fs.box.far (by show w.heap.size ≠ g; omega) _, S.fs.res.far (by show w.heap.size + 1 ≠ g; omega) _, S.fs.rd.far (.inr S.hi) _, S.fs.below.setCell (p := ⟨g, 3 + i, none⟩) (by show w.heap.size ≤ g; omega) _⟩, ?_, S.lt, S.hi⟩
  rw [← numAt_set L k n i h3 hin]
  exact S.fr.put (3 + i) _
theorem fs_s {w wr : World} {N cap lo hi b off : Nat} {L : List UInt8} (S : Fs w (some ⟨b, off, none⟩) N cap lo hi L wr) (h1 : 1 < L.length) : Fs w (some ⟨b, off, none⟩) N cap lo hi L wr ∧ wr.cell? ⟨w.heap.size, 0, none⟩ = some (.slice (some ⟨b, off, none⟩) N cap) ∧ wr.cell? ⟨b, off + 1, none⟩ = some (.int .u8 (L[1].toNat : Int)) := by
  refine ⟨S, S.box.cell 0, ?_⟩
  obtain ⟨b', off', e, hc⟩ := S.at h1
  injection e with e
  injection e with e1 e2
  subst e1 e2
  exact hc
end Frm
end Go.Proofs.Ytijijfggppnbpaa
