/- A part of the proof of WholeFaults. -/
import Derived.Test.YtekjehbkmlodmaaGreatZC
set_option linter.unusedVariables false
set_option linter.unusedSimpArgs false
namespace Go.Proofs.YtekjehbkmlodmaaGreat
section
open Go.RowKit
theorem results_cell_tmp2_row {P : Program} {fn : Func} {p u v : Tmp} {ty : TypeId} (h : fn.results = #[.cell p ty, .tmp u, .tmp v]) (tmps : Array Value) (w : World) (g : Nat) (t : TypeId) (cs : Array Value) (fr : Nat × Nat) (d : TypeDesc)
  (hp : tmps.getD p undef = .pointer (some ⟨g, 0, none⟩)) (hg : w.heap[g]? = some (.cells cs t fr))
  (hu : P.underlying ty = some d) (hd : (match d with | .struct _ | .array _ _ => true | _ => false) = true) (hi : (P.info? ty).map (·.size) = some cs.size) :
  (results fn tmps).run P w = .ok (.tuple #[.agg cs, tmps.getD u undef, tmps.getD v undef]) w := by
 have hp' : tmps[p]?.getD undef = .pointer (some ⟨g, 0, none⟩) := by simpa using hp
 simp [results, h, hp', asAddr, run_loadVar_row w g t ty cs fr d hg hu hd hi, Result.andThen]
theorem Blk.row {w : World} {g : Nat} {t : TypeId} {l : List Value} (h : Blk w g t l) (cs : List Value) : Blk (w.setRow g cs.toArray) g t cs := setRow_heap w g _ _ t _ h
theorem setRow_other (w : World) (g : Nat) (cs : Array Value) (k : Nat) (hk : k ≠ g) : (w.setRow g cs).heap[k]? = w.heap[k]? := by
 simp only [World.setRow, Array.getElem?_modify]
 rw [if_neg (fun e => hk e.symm)]
theorem Below.row {B : Nat} {w wr : World} (h : Below B w wr) {g : Nat} (hg : B ≤ g) (cs : Array Value) : Below B w (wr.setRow g cs) :=
 ⟨h.os, h.tape, h.output, by simpa using h.size, fun i hi => (setRow_other wr g cs i (by omega)).trans (h.block i hi)⟩
theorem RdL.bytes {w : World} {lo hi : Nat} {A : Option Addr} {l : List UInt8} (h : RdL w lo hi A (l.map Txt.bv)) : Crc.Bytes w A l := by
 rcases h with h | ⟨b, off, e, _, _, hb, hc⟩
 ·exact .inl (List.map_eq_nil_iff.1 h)
 ·exact .inr ⟨b, off, e, hb, fun i hi => hc i _ (by rw [List.getElem?_map, List.getElem?_eq_getElem hi]; rfl)⟩
namespace Frm
open Txt (kind_cases bv bv_one GotB leB leB_len leB_succ leVal leVal_lt tx)
theorem fr_one (f : Fr) : f.cells.toArray.all (·.oneCell') = true := by simp [Fr.cells, Value.oneCell']
def zeroF : Fr := ⟨0, 0, 0, 0, 0, 0⟩
def i32of (x : Nat) : Int := IntKind.i32.wrap (x : Int)
def numAt (L : List UInt8) (n i j : Nat) : Int := if j < i ∧ j < n then i32of (leVal L (8 + 4 * j) 4) else 0
def frameOf (L : List UInt8) (k n i : Nat) : Fr := ⟨k, leVal L 2 2, leVal L 4 4, numAt L n i 0, numAt L n i 1, numAt L n i 2⟩
def firstL : List UInt8 → Fr × Nat × Int
 | [] => (zeroF, 0, 5)
 | [c] => if c ≠ 126 then (zeroF, 0, 3) else (zeroF, 0, 5)
 | c :: k :: s => if c ≠ 126 then (zeroF, 0, 3) else if numN k.toNat < 0 then (zeroF, 0, 13) else
   if (c :: k :: s).length < 12 + 4 * (numN k.toNat).toNat then (zeroF, 0, 5) else
    if Crc.get ((c :: k :: s).take (8 + 4 * (numN k.toNat).toNat)) (((c :: k :: s).drop (8 + 4 * (numN k.toNat).toNat)).take 4) = true then (frameOf (c :: k :: s) k.toNat (numN k.toNat).toNat 3, 12 + 4 * (numN k.toNat).toNat, 0)
    else (zeroF, 0, 4)
def GotI (w : World) (L : List UInt8) (e : Ending) (w' : World) : Prop := e = .returned (.tuple #[(firstL L).1.v, .int .i64 ((firstL L).2.1 : Int), .int .i64 (firstL L).2.2]) ∧ Below w.heap.size w w'
theorem GotI.no {w wr : World} {L : List UInt8} {c : Int} (h : firstL L = (zeroF, 0, c)) (hb : Below w.heap.size w wr) : GotI w L (.returned (.tuple #[.agg zeroF.cells.toArray, .int .i64 0, .int .i64 c])) wr := ⟨by rw [h]; rfl, hb⟩
theorem numN_cases (k : Nat) : numN k = -1 ∨ ∃ n : Nat, numN k = n ∧ n ≤ 3 ∧ 1 ≤ k ∧ k ≤ 7 := by
 by_cases h : k < 1 ∨ 7 < k
 ·exact .inl (numN_none h)
 ·refine .inr ?_
  rcases (by omega : k = 1 ∨ k = 2 ∨ k = 3 ∨ k = 4 ∨ k = 5 ∨ k = 6 ∨ k = 7) with rfl | rfl | rfl | rfl | rfl | rfl | rfl
  all_goals exact ⟨_, rfl, by decide, by decide, by decide⟩
theorem first_cases (L : List UInt8) :
  (L = [] ∧ firstL L = (zeroF, 0, 5)) ∨ ∃ (h0 : 0 < L.length), (L[0] ≠ 126 ∧ firstL L = (zeroF, 0, 3)) ∨ (L[0] = 126 ∧ ((L.length = 1 ∧ firstL L = (zeroF, 0, 5)) ∨ ∃ (h1 : 1 < L.length), ((numN L[1].toNat = -1 ∧ firstL L = (zeroF, 0, 13)) ∨ ∃ n : Nat, numN L[1].toNat = n ∧ n ≤ 3 ∧ 1 ≤ L[1].toNat ∧ L[1].toNat ≤ 7 ∧
   ((L.length < 12 + 4 * n ∧ firstL L = (zeroF, 0, 5)) ∨ (12 + 4 * n ≤ L.length ∧
    ((Crc.get (L.take (8 + 4 * n)) ((L.drop (8 + 4 * n)).take 4) = true ∧ firstL L = (frameOf L L[1].toNat n 3, 12 + 4 * n, 0)) ∨ (Crc.get (L.take (8 + 4 * n)) ((L.drop (8 + 4 * n)).take 4) = false ∧ firstL L = (zeroF, 0, 4)))))))) := by
 match L with
 | [] => exact .inl ⟨rfl, rfl⟩
 | c :: r =>
  refine .inr ⟨by simp, ?_⟩
  by_cases hc : c = 126
  ·subst hc
   refine .inr ⟨rfl, ?_⟩
   match r with
   | [] => exact .inl ⟨rfl, rfl⟩
   | k :: s =>
    refine .inr ⟨by simp, ?_⟩
    show (numN k.toNat = -1 ∧ _) ∨ ∃ n : Nat, numN k.toNat = n ∧ n ≤ 3 ∧ 1 ≤ k.toNat ∧ k.toNat ≤ 7 ∧ _
    rcases numN_cases k.toNat with h | ⟨n, h, h3, h1, h7⟩
    ·refine .inl ⟨h, ?_⟩
     rw [firstL, if_neg (by simp), if_pos (by rw [h]; decide)]
    ·refine .inr ⟨n, h, h3, h1, h7, ?_⟩
     have hN : (numN k.toNat).toNat = n := by rw [h]; rfl
     have e : firstL (126 :: k :: s) = if (126 :: k :: s : List UInt8).length < 12 + 4 * n then (zeroF, 0, 5) else if Crc.get ((126 :: k :: s : List UInt8).take (8 + 4 * n)) (((126 :: k :: s : List UInt8).drop (8 + 4 * n)).take 4) = true then (frameOf (126 :: k :: s) k.toNat n 3, 12 + 4 * n, 0) else (zeroF, 0, 4) := by
      rw [firstL, if_neg (by simp), if_neg (by rw [h]; omega), hN]
     by_cases hl : (126 :: k :: s : List UInt8).length < 12 + 4 * n
     ·exact .inl ⟨hl, by rw [e, if_pos hl]⟩
     ·refine .inr ⟨by omega, ?_⟩
      rw [if_neg hl] at e
      cases hg : Crc.get ((126 :: k :: s : List UInt8).take (8 + 4 * n)) (((126 :: k :: s : List UInt8).drop (8 + 4 * n)).take 4)
      ·exact .inr ⟨rfl, by rw [e, hg]; rfl⟩
      ·exact .inl ⟨rfl, by rw [e, hg]; rfl⟩
  ·refine .inl ⟨hc, ?_⟩
   match r with
   | [] => rw [firstL, if_pos hc]
   | k :: s => rw [firstL, if_pos hc]
def sizeK (k : Int) : Int := if numK k < 0 then -1 else 12 + 4 * numK k
set_option maxRecDepth 100000 in
set_option maxHeartbeats 400000 in
theorem size_any (k : Int) (w : World) :
  Calls Tryz.prog 85 #[.int .i64 k] w fun e w' => e = .returned (.int .i64 (sizeK k)) ∧ Below w.heap.size w w' := by
 have hnm := fun w => numbers_any k w
 rcases numK_cases k with ⟨h, _⟩ | ⟨n, h, h3, _⟩
 ·have hs : sizeK k = -1 := by unfold sizeK; rw [h]; rfl
  rw [h] at hnm
  have HS := Lib.hid hs
  clear hs h
  go_enter Tryz.func85, Tryz.ntmps85
  go_wp2_with fail
  refine (hnm _).mono ?_
  rintro e w1 ⟨rfl, hb⟩
  go_wp2_with fail
  go_ret
  exact ⟨by rw [HS.out]; rfl, hb⟩
 ·have hs : sizeK k = 12 + 4 * (n : Int) := by unfold sizeK; rw [h, if_neg (by omega)]
  rw [h] at hnm
  have HS := Lib.hid hs
  have y1 : IntKind.i64.wrap (4 * (n : Int)) = 4 * (n : Int) := IntWalk.i64_in _ (by omega)
  have y2 : IntKind.i64.wrap (8 + 4 * (n : Int)) = 8 + 4 * (n : Int) := IntWalk.i64_in _ (by omega)
  have y3 : IntKind.i64.wrap (8 + 4 * (n : Int) + 4) = 12 + 4 * (n : Int) := by rw [IntWalk.i64_in _ (by omega)]; omega
  have y4 : 8 + 4 * (n : Int) + 4 = 12 + 4 * (n : Int) := by omega
  have n0 : ¬ (n : Int) < 0 := by omega
  clear hs h
  go_enter Tryz.func85, Tryz.ntmps85
  go_wp2_with fail
  refine (hnm _).mono ?_
  rintro e w1 ⟨rfl, hb⟩
  go_wp2_with fail
  go_ret
  exact ⟨by rw [HS.out]; rfl, hb⟩
set_option maxRecDepth 100000 in
set_option maxHeartbeats 400000 in
theorem ysize_any (k : Int) (n : Nat) (hn : numK k = n) (hn3 : n ≤ 3) (w : World) :
  Calls Tryz.prog 63 #[.int .i64 k] w fun e w' => e = .returned (.int .i64 ((12 + 4 * n : Nat) : Int)) ∧ w = w' := by
 have hnm := fun w => ynumbers_any k w
 rw [hn] at hnm
 have y1 : IntKind.i64.wrap (4 * (n : Int)) = 4 * (n : Int) := IntWalk.i64_in _ (by omega)
 have y2 : IntKind.i64.wrap (12 + 4 * (n : Int)) = 12 + 4 * (n : Int) := IntWalk.i64_in _ (by omega)
 clear hn
 go_enter Tryz.func63, Tryz.ntmps63
 go_wp2_with fail
 refine (hnm _).mono ?_
 rintro e w1 ⟨rfl, rfl⟩
 go_wp2_with fail
 go_ret
 exact ⟨by congr 1, rfl⟩
set_option maxRecDepth 100000 in
set_option maxHeartbeats 400000 in

theorem num_any (g : Nat) (A : Option Addr) (L : List UInt8) (N cap at' k lo hi : Nat) (w : World) (hc : w.cell? ⟨g, 0, none⟩ = some (.slice A N cap)) (h : RdL w lo hi A (L.map bv)) (hn : L.length = N) (hk : k ≤ 8) (hle : at' + k ≤ N) (hl : N ≤ 1000000) :
  Calls Tryz.prog 86 #[.int .i64 (at' : Int), .int .i64 (k : Int), .pointer (some ⟨g, 0, none⟩)] w fun e w' => e = .returned (.int .u64 (leVal L at' k : Int)) ∧ w = w' := by
 have hget := Txt.get_ok A L N cap at' k lo hi w h hn hk hle hl
 clear h hn hk hle hl
 go_enter Tryz.func86, Tryz.ntmps86
 go_wp2_with fail
 refine hget.mono ?_
 rintro e w1 ⟨rfl, rfl⟩
 go_wp2_with fail
 go_ret
 exact ⟨rfl, rfl⟩
end Frm
end
section
open Go.RowKit
namespace Frm
open Txt (kind_cases bv bv_one GotB leB leB_len leB_succ leVal leVal_lt tx)
structure Fs (w : World) (A : Option Addr) (N cap lo hi : Nat) (L : List UInt8) (wr : World) : Prop where
 box : Blk wr w.heap.size 35 [.slice A N cap]
 res : Blk wr (w.heap.size + 1) 59 zeroF.cells
 rd : RdL wr lo hi A (L.map bv)
 below : Below w.heap.size w wr
theorem Fs.next {w wr w' : World} {A : Option Addr} {N cap lo hi : Nat} {L : List UInt8} (S : Fs w A N cap lo hi L wr) (hb : Below wr.heap.size wr w') : Fs w A N cap lo hi L w' :=
 ⟨S.box.next hb, S.res.next hb, S.rd.next hb, _root_.Go.Proofs.YtekjehbkmlodmaaGreat.bt S.below hb⟩
theorem Fs.start {w : World} {A : Option Addr} {N cap lo hi : Nat} {L : List UInt8} (h : RdL w lo hi A (L.map bv)) : Fs w A N cap lo hi L ((w.alloc (.cells [.slice A N cap].toArray 35)).alloc (.cells zeroF.cells.toArray 59)) := by
 refine ⟨(Blk.mk w _ _).alloc _, ?_, (h.alloc _).alloc _, _root_.Go.Proofs.YtekjehbkmlodmaaGreat.bt (bl w _) (bl _ _)⟩
 have := Blk.mk (w.alloc (.cells [.slice A N cap].toArray 35)) 59 zeroF.cells
 simpa using this
theorem Fs.at {w wr : World} {A : Option Addr} {N cap lo hi : Nat} {L : List UInt8} (S : Fs w A N cap lo hi L wr) {i : Nat} (hi' : i < L.length) : ∃ b off, A = some ⟨b, off, none⟩ ∧ wr.cell? ⟨b, off + i, none⟩ = some (.int .u8 (L[i].toNat : Int)) := by
 obtain ⟨b, off, e, _, _, _, hc⟩ := S.rd.some (by rw [List.length_map]; omega)
 exact ⟨b, off, e, hc i _ (by rw [List.getElem?_map, List.getElem?_eq_getElem hi']; rfl)⟩
theorem rd_at {w : World} {A : Option Addr} {lo hi : Nat} {L : List UInt8} (S : RdL w lo hi A (L.map bv)) {i : Nat} (hi' : i < L.length) : ∃ b off, A = some ⟨b, off, none⟩ ∧ b < w.heap.size ∧ w.cell? ⟨b, off + i, none⟩ = some (.int .u8 (L[i].toNat : Int)) := by
 obtain ⟨b, off, e, _, _, hb, hc⟩ := S.some (by rw [List.length_map]; omega)
 exact ⟨b, off, e, hb, hc i _ (by rw [List.getElem?_map, List.getElem?_eq_getElem hi']; rfl)⟩
set_option maxRecDepth 100000 in
set_option maxHeartbeats 1000000 in
theorem first_nil (A : Option Addr) (L : List UInt8) (N cap lo hi : Nat) (w : World) (h : RdL w lo hi A (L.map bv)) (hn : L.length = N) (hL : L = []) (hr : firstL L = (zeroF, 0, 5)) : Calls Tryz.prog 67 #[.slice A N cap] w (GotI w L) := by
 have HS := Lib.hid (Fs.start (cap := cap) (N := N) h)
 have HP := Lib.hid HS.out.res
 obtain rfl : N = 0 := by rw [← hn, hL]; rfl
 have HR := Lib.hid hr
 clear h hn hL hr
 go_enter Tryz.func67, Tryz.ntmps67
 go_wp2_with (refine wpList_store_row rfl 59 _ _ rfl (w.heap.size + 1) zeroF.cells.toArray rfl rfl _ _ HP.out (by kernel_rfl) rfl (fr_one zeroF) ?_)
 refine bodyPost_ret (results_cell_tmp2_row rfl _ _ (w.heap.size + 1) 59 _ (0, 0) _ rfl (HP.out.row zeroF.cells) Tryz.underlying59 rfl (by kernel_rfl)) rfl ?_
 exact GotI.no HR.out (Below.row HS.out.below (by omega) _)
set_option maxRecDepth 100000 in
set_option maxHeartbeats 1000000 in
theorem first_mark (A : Option Addr) (L : List UInt8) (N cap lo hi : Nat) (w : World) (h : RdL w lo hi A (L.map bv)) (hn : L.length = N) (h0 : 0 < L.length) (hm : L[0] ≠ 126) (hr : firstL L = (zeroF, 0, 3)) : Calls Tryz.prog 67 #[.slice A N cap] w (GotI w L) := by
 have HS := Lib.hid (Fs.start (cap := cap) (N := N) h)
 have HP := Lib.hid HS.out.res
 obtain ⟨b, off, rfl, hbl, c0⟩ := rd_at h h0
 have hbl2 : b < w.heap.size + 1 := by omega
 rw [Nat.add_zero] at c0
 have hm1 : ((L[0].toNat : Int) == 126) = false := beq_eq_false_iff_ne.2 (fun e => hm (UInt8.toNat_inj.1 (show L[0].toNat = 126 by omega)))
 have hm2 : ((L[0].toNat : Int) != 126) = true := by rw [bne, hm1]; rfl
 rw [hn] at h0
 have n0 : ((N : Int) == 0) = false := beq_eq_false_iff_ne.2 (by omega)
 have n1 : N ≠ 0 := by omega
 have i0 : (0 : Int) < (N : Int) := by omega
 have HR := Lib.hid hr
 clear h hn hr hm
 generalize L[0].toNat = m at *
 go_enter Tryz.func67, Tryz.ntmps67
 go_wp2_with (refine wpList_store_row rfl 59 _ _ rfl (w.heap.size + 1) zeroF.cells.toArray rfl rfl _ _ HP.out (by kernel_rfl) rfl (fr_one zeroF) ?_)
 refine bodyPost_ret (results_cell_tmp2_row rfl _ _ (w.heap.size + 1) 59 _ (0, 0) _ rfl (HP.out.row zeroF.cells) Tryz.underlying59 rfl (by kernel_rfl)) rfl ?_
 exact GotI.no HR.out (Below.row HS.out.below (by omega) _)
set_option maxRecDepth 100000 in
set_option maxHeartbeats 1000000 in
theorem first_one (A : Option Addr) (L : List UInt8) (cap lo hi : Nat) (w : World) (h : RdL w lo hi A (L.map bv)) (hn : L.length = 1) (h0 : 0 < L.length) (hm : L[0] = 126) (hr : firstL L = (zeroF, 0, 5)) : Calls Tryz.prog 67 #[.slice A 1 cap] w (GotI w L) := by
 have HS := Lib.hid (Fs.start (cap := cap) (N := 1) h)
 have HP := Lib.hid HS.out.res
 obtain ⟨b, off, rfl, hbl, c0⟩ := rd_at h h0
 have hbl2 : b < w.heap.size + 1 := by omega
 rw [Nat.add_zero, hm] at c0
 have HR := Lib.hid hr
 clear h hn hr hm
 go_enter Tryz.func67, Tryz.ntmps67
 go_wp2_with (refine wpList_store_row rfl 59 _ _ rfl (w.heap.size + 1) zeroF.cells.toArray rfl rfl _ _ HP.out (by kernel_rfl) rfl (fr_one zeroF) ?_)
 refine bodyPost_ret (results_cell_tmp2_row rfl _ _ (w.heap.size + 1) 59 _ (0, 0) _ rfl (HP.out.row zeroF.cells) Tryz.underlying59 rfl (by kernel_rfl)) rfl ?_
 exact GotI.no HR.out (Below.row HS.out.below (by omega) _)
set_option maxRecDepth 100000 in
set_option maxHeartbeats 1000000 in
theorem first_kind (A : Option Addr) (L : List UInt8) (N cap lo hi : Nat) (w : World) (h : RdL w lo hi A (L.map bv)) (hn : L.length = N) (h0 : 0 < L.length) (hm : L[0] = 126) (h1 : 1 < L.length) (hk : numN L[1].toNat = -1) (hr : firstL L = (zeroF, 0, 13)) : Calls Tryz.prog 67 #[.slice A N cap] w (GotI w L) := by
 have HS := Lib.hid (Fs.start (cap := cap) (N := N) h)
 obtain ⟨b, off, rfl, hbl, c0⟩ := rd_at h h0
 have hbl2 : b < w.heap.size + 1 := by omega
 obtain ⟨b', off', e, _, c1⟩ := rd_at h h1
 injection e with e
 injection e with e1 e2
 subst e1 e2
 rw [Nat.add_zero, hm] at c0
 rw [hn] at h0 h1
 have n0 : ((N : Int) == 0) = false := beq_eq_false_iff_ne.2 (by omega)
 have n1 : ((N : Int) == 1) = false := beq_eq_false_iff_ne.2 (by omega)
 have n2 : N ≠ 0 := by omega
 have n3 : N ≠ 1 := by omega
 have i0 : (0 : Int) < (N : Int) := by omega
 have i1 : (1 : Int) < (N : Int) := by omega
 have hsz := fun w => size_any (L[1].toNat : Int) w
 have hsk : sizeK (L[1].toNat : Int) = -1 := by unfold sizeK numK; rw [Int.toNat_natCast, hk]; rfl
 rw [hsk] at hsz
 have hu := IntWalk.i64_in (L[1].toNat : Int) (by have := L[1].toNat_lt; omega)
 have HR := Lib.hid hr
 clear h hn hr hm hk hsk
 generalize L[1].toNat = m at *
 go_enter Tryz.func67, Tryz.ntmps67
 go_wp2_with fail
 refine (hsz _).mono ?_
 rintro e w1 ⟨rfl, hb⟩
 have HS1 := Lib.hid (HS.out.next hb)
 have HP := Lib.hid HS1.out.res
 clear hb HS
 go_wp2_with (refine wpList_store_row rfl 59 _ _ rfl (w.heap.size + 1) zeroF.cells.toArray rfl rfl _ _ HP.out (by kernel_rfl) rfl (fr_one zeroF) ?_)
 refine bodyPost_ret (results_cell_tmp2_row rfl _ _ (w.heap.size + 1) 59 _ (0, 0) _ rfl (HP.out.row zeroF.cells) Tryz.underlying59 rfl (by kernel_rfl)) rfl ?_
 exact GotI.no HR.out (Below.row HS1.out.below (by omega) _)
set_option maxRecDepth 100000 in
set_option maxHeartbeats 1000000 in
theorem first_few (A : Option Addr) (L : List UInt8) (N cap lo hi : Nat) (w : World) (h : RdL w lo hi A (L.map bv)) (hn : L.length = N) (h0 : 0 < L.length) (hm : L[0] = 126) (h1 : 1 < L.length) (n : Nat) (hk : numN L[1].toNat = n) (hn3 : n ≤ 3) (hfew : L.length < 12 + 4 * n) (hr : firstL L = (zeroF, 0, 5)) : Calls Tryz.prog 67 #[.slice A N cap] w (GotI w L) := by
 have HS := Lib.hid (Fs.start (cap := cap) (N := N) h)
 obtain ⟨b, off, rfl, hbl, c0⟩ := rd_at h h0
 have hbl2 : b < w.heap.size + 1 := by omega
 obtain ⟨b', off', e, _, c1⟩ := rd_at h h1
 injection e with e
 injection e with e1 e2
 subst e1 e2
 rw [Nat.add_zero, hm] at c0
 rw [hn] at h0 h1 hfew
 have n0 : ((N : Int) == 0) = false := beq_eq_false_iff_ne.2 (by omega)
 have n1 : ((N : Int) == 1) = false := beq_eq_false_iff_ne.2 (by omega)
 have n2 : N ≠ 0 := by omega
 have n3 : N ≠ 1 := by omega
 have i0 : (0 : Int) < (N : Int) := by omega
 have i1 : (1 : Int) < (N : Int) := by omega
 obtain ⟨z, hz⟩ : ∃ z, z = 12 + 4 * n := ⟨_, rfl⟩
 have hsz := fun w => size_any (L[1].toNat : Int) w
 have hsk : sizeK (L[1].toNat : Int) = (z : Int) := by unfold sizeK numK; rw [Int.toNat_natCast, hk, if_neg (by omega)]; omega
 rw [hsk] at hsz
 have hu := IntWalk.i64_in (L[1].toNat : Int) (by have := L[1].toNat_lt; omega)
 have hlt : N < z := by omega
 have hltd : decide (N < z) = true := decide_eq_true hlt
 have HR := Lib.hid hr
 clear h hn hr hm hk hsk hz hfew
 generalize L[1].toNat = m at *
 go_enter Tryz.func67, Tryz.ntmps67
 go_wp2_with fail
 refine (hsz _).mono ?_
 rintro e w1 ⟨rfl, hb⟩
 have HS1 := Lib.hid (HS.out.next hb)
 have HP := Lib.hid HS1.out.res
 have cb : w1.cell? ⟨w.heap.size, 0, none⟩ = some (.slice (some ⟨b, off, none⟩) N cap) := HS1.out.box.cell 0
 clear hb HS
 go_wp2_with (refine wpList_store_row rfl 59 _ _ rfl (w.heap.size + 1) zeroF.cells.toArray rfl rfl _ _ HP.out (by kernel_rfl) rfl (fr_one zeroF) ?_)
 refine bodyPost_ret (results_cell_tmp2_row rfl _ _ (w.heap.size + 1) 59 _ (0, 0) _ rfl (HP.out.row zeroF.cells) Tryz.underlying59 rfl (by kernel_rfl)) rfl ?_
 exact GotI.no HR.out (Below.row HS1.out.below (by omega) _)
end Frm
end
section
open Go.RowKit
namespace Frm
open Txt (kind_cases bv bv_one GotB leB leB_len leB_succ leVal leVal_lt tx)
theorem four_of {t : List UInt8} (h : t.length = 4) : ∃ t0 t1 t2 t3, t = [t0, t1, t2, t3] := by
 match t, h with
 | [a, b, c, d], _ => exact ⟨a, b, c, d, rfl⟩
theorem get_z (A : Option Addr) (L : List UInt8) (cap z lo hi : Nat) (w : World) (h : RdL w lo hi A (L.map bv)) (hz : z ≤ L.length) (hz4 : 4 ≤ z) (hl : L.length ≤ 1000000) (hcap : z ≤ cap) :
  Calls Tryz.prog 61 #[.slice A z cap] w fun e w' => (∃ v, e = .returned (.tuple #[v, .bool (Crc.get (L.take (z - 4)) ((L.drop (z - 4)).take 4))])) ∧ Below w.heap.size w w' := by
 have hl4 : ((L.drop (z - 4)).take 4).length = 4 := by rw [List.length_take, List.length_drop]; omega
 obtain ⟨t0, t1, t2, t3, ht⟩ := four_of hl4
 have happ : L.take (z - 4) ++ [t0, t1, t2, t3] = L.take z := by
  rw [← ht]
  have := List.take_add (l := L) (i := z - 4) (j := 4)
  rw [show z - 4 + 4 = z by omega] at this
  exact this.symm
 have hb : Crc.Bytes w A (L.take (z - 4) ++ [t0, t1, t2, t3]) := by
  rw [happ]
  refine RdL.bytes (lo := lo) (hi := hi) ?_
  rw [List.map_take]
  exact h.take z
 have := Crc.get_core A (L.take (z - 4)) t0 t1 t2 t3 (z - 4) cap w (by rw [List.length_take]; omega) hb (by omega) (by omega)
 rw [show z - 4 + 4 = z by omega] at this
 rw [ht]
 exact this.mono fun e w' ⟨v, he, _, hb⟩ => ⟨⟨v, he⟩, hb⟩
set_option maxRecDepth 100000 in
set_option maxHeartbeats 1000000 in
theorem first_sum (A : Option Addr) (L : List UInt8) (N cap lo hi : Nat) (w : World) (h : RdL w lo hi A (L.map bv)) (hn : L.length = N) (hl : N ≤ 1000000) (hNc : N ≤ cap) (h0 : 0 < L.length) (hm : L[0] = 126) (h1 : 1 < L.length) (n : Nat) (hk : numN L[1].toNat = n) (hn3 : n ≤ 3) (hlen : 12 + 4 * n ≤ L.length) (hg : Crc.get (L.take (8 + 4 * n)) ((L.drop (8 + 4 * n)).take 4) = false) (hr : firstL L = (zeroF, 0, 4)) : Calls Tryz.prog 67 #[.slice A N cap] w (GotI w L) := by
 have HS := Lib.hid (Fs.start (cap := cap) (N := N) h)
 obtain ⟨b, off, rfl, hbl, c0⟩ := rd_at h h0
 have hbl2 : b < w.heap.size + 1 := by omega
 obtain ⟨b', off', e, _, c1⟩ := rd_at h h1
 injection e with e
 injection e with e1 e2
 subst e1 e2
 rw [Nat.add_zero, hm] at c0
 obtain ⟨z, hz⟩ : ∃ z, z = 12 + 4 * n := ⟨_, rfl⟩
 have hget := fun w h => get_z (some ⟨b, off, none⟩) L cap z lo hi w h (by omega) (by omega) (by omega) (by omega)
 rw [show z - 4 = 8 + 4 * n by omega, hg] at hget
 rw [hn] at h0 h1 hlen
 have n0 : ((N : Int) == 0) = false := beq_eq_false_iff_ne.2 (by omega)
 have n1 : ((N : Int) == 1) = false := beq_eq_false_iff_ne.2 (by omega)
 have n2 : N ≠ 0 := by omega
 have n3 : N ≠ 1 := by omega
 have i0 : (0 : Int) < (N : Int) := by omega
 have i1 : (1 : Int) < (N : Int) := by omega
 have hsz := fun w => size_any (L[1].toNat : Int) w
 have hsk : sizeK (L[1].toNat : Int) = (z : Int) := by unfold sizeK numK; rw [Int.toNat_natCast, hk, if_neg (by omega)]; omega
 rw [hsk] at hsz
 have hu := IntWalk.i64_in (L[1].toNat : Int) (by have := L[1].toNat_lt; omega)
 have hltd : decide (N < z) = false := decide_eq_false (by omega)
 have hlti : ¬ (N : Int) < (z : Int) := by omega
 have hzc : (z : Int) ≤ (cap : Int) := by omega
 have hzc2 : z ≤ cap := by omega
 have hz0 : (0 : Int) ≤ (z : Int) := by omega
 have HR := Lib.hid hr
 clear h hn hr hm hk hsk hz hlen hg
 generalize L[1].toNat = m at *
 go_enter Tryz.func67, Tryz.ntmps67
 go_wp2_with fail
 refine (hsz _).mono ?_
 rintro e w1 ⟨rfl, hb⟩
 have HS1 := Lib.hid (HS.out.next hb)
 have cb : w1.cell? ⟨w.heap.size, 0, none⟩ = some (.slice (some ⟨b, off, none⟩) N cap) := HS1.out.box.cell 0
 clear hb HS
 go_wp2_with fail
 refine (hget _ HS1.out.rd).mono ?_
 rintro e w2 ⟨⟨v, rfl⟩, hb⟩
 have HS2 := Lib.hid (HS1.out.next hb)
 have HP := Lib.hid HS2.out.res
 clear hb HS1 cb
 go_wp2_with (refine wpList_store_row rfl 59 _ _ rfl (w.heap.size + 1) zeroF.cells.toArray rfl rfl _ _ HP.out (by kernel_rfl) rfl (fr_one zeroF) ?_)
 refine bodyPost_ret (results_cell_tmp2_row rfl _ _ (w.heap.size + 1) 59 _ (0, 0) _ rfl (HP.out.row zeroF.cells) Tryz.underlying59 rfl (by kernel_rfl)) rfl ?_
 exact GotI.no HR.out (Below.row HS2.out.below (by omega) _)
theorem numAt_set (L : List UInt8) (k n i : Nat) (hi : i < 3) (hin : i < n) : (frameOf L k n i).cells.set (3 + i) (.int .i32 (i32of (leVal L (8 + 4 * i) 4))) = (frameOf L k n (i + 1)).cells := by
 have h0 : ∀ j, numAt L n 0 j = 0 := fun j => by unfold numAt; rw [if_neg (by omega)]
 have hy : ∀ i j, j < i → j < n → numAt L n i j = i32of (leVal L (8 + 4 * j) 4) := fun i j a b => by unfold numAt; rw [if_pos ⟨a, b⟩]
 have hn : ∀ i j, ¬ j < i → numAt L n i j = 0 := fun i j a => by unfold numAt; rw [if_neg (fun h => a h.1)]
 unfold frameOf Fr.cells
 rcases (by omega : i = 0 ∨ i = 1 ∨ i = 2) with rfl | rfl | rfl
 ·rw [hn 0 0 (by omega), hn 0 1 (by omega), hn 0 2 (by omega), hy 1 0 (by omega) (by omega), hn (0 + 1) 1 (by omega), hn (0 + 1) 2 (by omega)]
  rfl
 ·rw [hy 1 0 (by omega) (by omega), hn 1 1 (by omega), hn 1 2 (by omega), hy (1 + 1) 0 (by omega) (by omega), hy (1 + 1) 1 (by omega) (by omega), hn (1 + 1) 2 (by omega)]
  rfl
 ·rw [hy 2 0 (by omega) (by omega), hy 2 1 (by omega) (by omega), hn 2 2 (by omega), hy (2 + 1) 0 (by omega) (by omega), hy (2 + 1) 1 (by omega) (by omega), hy (2 + 1) 2 (by omega) (by omega)]
  rfl
theorem numAt_keep (L : List UInt8) (k n i : Nat) (hin : ¬ i < n) : frameOf L k n i = frameOf L k n (i + 1) := by
 have h : ∀ j, numAt L n i j = numAt L n (i + 1) j := fun j => by
  unfold numAt
  by_cases h : j < i ∧ j < n
  ·rw [if_pos h, if_pos ⟨by omega, h.2⟩]
  ·rw [if_neg h, if_neg (by omega)]
 unfold frameOf
 rw [h, h, h]
structure Gf (w : World) (A : Option Addr) (N cap lo hi : Nat) (L : List UInt8) (g k n i : Nat) (wr : World) : Prop where
 fs : Fs w A N cap lo hi L wr
 fr : Blk wr g 59 (frameOf L k n i).cells
 lt : w.heap.size + 1 < g
 hi : hi ≤ g
theorem Gf.next {w wr w' : World} {A : Option Addr} {N cap lo hi : Nat} {L : List UInt8} {g k n i : Nat} (S : Gf w A N cap lo hi L g k n i wr) (hb : Below wr.heap.size wr w') : Gf w A N cap lo hi L g k n i w' :=
 ⟨S.fs.next hb, S.fr.next hb, S.lt, S.hi⟩
theorem Gf.step {w wr : World} {A : Option Addr} {N cap lo hi : Nat} {L : List UInt8} {g k n i : Nat} (S : Gf w A N cap lo hi L g k n i wr) (h3 : i < 3) (hin : i < n) : Gf w A N cap lo hi L g k n (i + 1) (wr.setCell ⟨g, 3 + i, none⟩ (.int .i32 (i32of (leVal L (8 + 4 * i) 4)))) := by
 have hlt := S.lt
 refine ⟨⟨S.fs.box.far (by show w.heap.size ≠ g; omega) _, S.fs.res.far (by show w.heap.size + 1 ≠ g; omega) _, S.fs.rd.far (.inr S.hi) _, S.fs.below.setCell (p := ⟨g, 3 + i, none⟩) (by show w.heap.size ≤ g; omega) _⟩, ?_, S.lt, S.hi⟩
 rw [← numAt_set L k n i h3 hin]
 exact S.fr.put (3 + i) _
theorem fs_s {w wr : World} {N cap lo hi b off : Nat} {L : List UInt8} (S : Fs w (some ⟨b, off, none⟩) N cap lo hi L wr) (h1 : 1 < L.length) : Fs w (some ⟨b, off, none⟩) N cap lo hi L wr ∧ wr.cell? ⟨w.heap.size, 0, none⟩ = some (.slice (some ⟨b, off, none⟩) N cap) ∧ wr.cell? ⟨b, off + 1, none⟩ = some (.int .u8 (L[1].toNat : Int)) := by
 refine ⟨S, S.box.cell 0, ?_⟩
 obtain ⟨b', off', e, hc⟩ := S.at h1
 injection e with e
 injection e with e1 e2
 subst e1 e2
 exact hc
end Frm
end
section
open Go.RowKit
namespace Frm
open Txt (kind_cases bv bv_one GotB leB leB_len leB_succ leVal leVal_lt tx)
set_option maxRecDepth 100000 in
set_option maxHeartbeats 1000000 in
theorem first_ok (A : Option Addr) (L : List UInt8) (N cap lo hi : Nat) (w : World) (h : RdL w lo hi A (L.map bv)) (hhi : hi ≤ w.heap.size) (hn : L.length = N) (hl : N ≤ 1000000) (hNc : N ≤ cap) (h0 : 0 < L.length) (hm : L[0] = 126) (h1 : 1 < L.length) (n : Nat) (hk : numN L[1].toNat = n) (hn3 : n ≤ 3) (hlen : 12 + 4 * n ≤ L.length) (hg : Crc.get (L.take (8 + 4 * n)) ((L.drop (8 + 4 * n)).take 4) = true) (hr : firstL L = (frameOf L L[1].toNat n 3, 12 + 4 * n, 0)) : Calls Tryz.prog 67 #[.slice A N cap] w (GotI w L) := by
 have HS := Lib.hid (Fs.start (cap := cap) (N := N) h)
 obtain ⟨b, off, rfl, hbl, c0⟩ := rd_at h h0
 have hbl2 : b < w.heap.size + 1 := by omega
 obtain ⟨b', off', e, _, c1⟩ := rd_at h h1
 injection e with e
 injection e with e1 e2
 subst e1 e2
 rw [Nat.add_zero, hm] at c0
 obtain ⟨z, hz⟩ : ∃ z, z = 12 + 4 * n := ⟨_, rfl⟩
 have hget := fun w h => get_z (some ⟨b, off, none⟩) L cap z lo hi w h (by omega) (by omega) (by omega) (by omega)
 rw [show z - 4 = 8 + 4 * n by omega, hg] at hget
 rw [← hz] at hr
 have hnum : ∀ (a k : Nat), a + k ≤ N → k ≤ 8 → ∀ W, Fs w (some ⟨b, off, none⟩) N cap lo hi L W → Calls Tryz.prog 86 #[.int .i64 (a : Int), .int .i64 (k : Int), .pointer (some ⟨w.heap.size, 0, none⟩)] W fun e w' => e = .returned (.int .u64 (leVal L a k : Int)) ∧ W = w' :=
  fun a k ha hk W S => num_any w.heap.size (some ⟨b, off, none⟩) L N cap a k lo hi W (S.box.cell 0) S.rd hn hk ha hl
 have hn2 : ∀ W, Fs w (some ⟨b, off, none⟩) N cap lo hi L W → Calls Tryz.prog 86 #[.int .i64 2, .int .i64 2, .pointer (some ⟨w.heap.size, 0, none⟩)] W fun e w' => e = .returned (.int .u64 (leVal L 2 2 : Int)) ∧ W = w' := fun W S => hnum 2 2 (by omega) (by decide) W S
 have hn4 : ∀ W, Fs w (some ⟨b, off, none⟩) N cap lo hi L W → Calls Tryz.prog 86 #[.int .i64 4, .int .i64 4, .pointer (some ⟨w.heap.size, 0, none⟩)] W fun e w' => e = .returned (.int .u64 (leVal L 4 4 : Int)) ∧ W = w' := fun W S => hnum 4 4 (by omega) (by decide) W S
 have HNum := Lib.hid hnum
 have hl1 := h1
 rw [hn] at h0 h1 hlen
 have n0 : ((N : Int) == 0) = false := beq_eq_false_iff_ne.2 (by omega)
 have n1 : ((N : Int) == 1) = false := beq_eq_false_iff_ne.2 (by omega)
 have n2 : N ≠ 0 := by omega
 have n3 : N ≠ 1 := by omega
 have i0 : (0 : Int) < (N : Int) := by omega
 have i1 : (1 : Int) < (N : Int) := by omega
 have hsz := fun w => size_any (L[1].toNat : Int) w
 have hsk : sizeK (L[1].toNat : Int) = (z : Int) := by unfold sizeK numK; rw [Int.toNat_natCast, hk, if_neg (by omega)]; omega
 have hnk : numK (L[1].toNat : Int) = (n : Int) := by unfold numK; rw [Int.toNat_natCast, hk]
 have hnb := fun w => numbers_any (L[1].toNat : Int) w
 rw [hnk] at hnb
 rw [hsk] at hsz
 have hu := IntWalk.i64_in (L[1].toNat : Int) (by have := L[1].toNat_lt; omega)
 have hltd : decide (N < z) = false := decide_eq_false (by omega)
 have hlti : ¬ (N : Int) < (z : Int) := by omega
 have hzc : (z : Int) ≤ (cap : Int) := by omega
 have hzc2 : z ≤ cap := by omega
 have hz0 : (0 : Int) ≤ (z : Int) := by omega
 have hzd : decide ((z : Int) < 0) = false := decide_eq_false (by omega)
 have q2 := leVal_lt L 2 2
 have q4 := leVal_lt L 4 4
 have u2 : IntKind.u16.wrap (leVal L 2 2 : Int) = (leVal L 2 2 : Int) := IntWalk.u16_in _ (by omega)
 have u4 : IntKind.u32.wrap (leVal L 4 4 : Int) = (leVal L 4 4 : Int) := IntWalk.u32_in _ (by omega)
 have hs : ∀ W, Fs w (some ⟨b, off, none⟩) N cap lo hi L W → _ := fun W S => fs_s S hl1
 have hfr0 : ∀ j, numAt L n 0 j = 0 := fun j => by unfold numAt; rw [if_neg (by omega)]
 have hcells : (frameOf L L[1].toNat n 0).cells = [.int .i64 (L[1].toNat : Int), .int .u16 (leVal L 2 2 : Int), .int .u32 (leVal L 4 4 : Int), .int .i32 0, .int .i32 0, .int .i32 0] := by
  unfold frameOf Fr.cells
  rw [hfr0, hfr0, hfr0]
 have HC := Lib.hid hcells
 have HR := Lib.hid hr
 have Hlen := Lib.hid (show 12 + 4 * n ≤ N from hlen)
 clear h hn hr hm hk hsk hz hlen hg hfr0 hcells q2 q4 hnk hnum
 generalize L[1].toNat = m at *
 go_enter Tryz.func67, Tryz.ntmps67
 go_wp2_with fail
 refine (hsz _).mono ?_
 rintro e w1 ⟨rfl, hb⟩
 have HS1 := Lib.hid (HS.out.next hb)
 have cb : w1.cell? ⟨w.heap.size, 0, none⟩ = some (.slice (some ⟨b, off, none⟩) N cap) := HS1.out.box.cell 0
 clear hb HS
 go_wp2_with fail
 refine (hget _ HS1.out.rd).mono ?_
 rintro e w2 ⟨⟨v, rfl⟩, hb⟩
 have HS2 := Lib.hid (HS1.out.next hb)
 clear hb HS1 cb hget
 go_upto_region 16 with (fail)
 go_cut [9] (fun s wx => ∃ g, s = .pointer (some ⟨g, 0, none⟩) ∧ Gf w (some ⟨b, off, none⟩) N cap lo hi L g m n 0 wx)
 case first =>
  have hw2 := HS2.out.below.size
  have hg2 : w.heap.size + 1 < w2.heap.size := HS2.out.res.lt
  have hG0 : Gf w (some ⟨b, off, none⟩) N cap lo hi L w2.heap.size m n 0 ((w2.alloc (.cells (frameOf L m n 0).cells.toArray 59)).drew) :=
   ⟨(HS2.out.next (bl _ _)).next (Below.refl _ _).drew, (Blk.mk w2 59 _).drew, hg2, Nat.le_trans hhi hw2⟩
  rw [HC.out] at hG0
  have HG0 := Lib.hid hG0
  clear hG0
  clear c0 c1
  go_region_held3 (fun w' => Fs w (some ⟨b, off, none⟩) N cap lo hi L w' ∧ w'.cell? ⟨w.heap.size, 0, none⟩ = some (.slice (some ⟨b, off, none⟩) N cap) ∧ w'.cell? ⟨b, off + 1, none⟩ = some (.int .u8 (m : Int)))
   (first
    | exact hs _ (HS2.out.next (Below.refl _ _).drew)
    | assumption
    | exact hs _ ((HS2.out.next (bl _ _)).next (Below.refl _ _).drew)
    | exact hs _ ((And.left ‹Fs w (some ⟨b, off, none⟩) N cap lo hi L _ ∧ _›).next (bl _ _)))
   (first
    | (go_at_call 86; (with_reducible refine (hn2 _ (And.left (by assumption))).mono ?_); rintro e w' ⟨rfl, rfl⟩)
    | (go_at_call 86; (with_reducible refine (hn4 _ (And.left (by assumption))).mono ?_); rintro e w' ⟨rfl, rfl⟩))
  all_goals
   go_wp2_with fail
   go_meet
   exact ⟨_, rfl, HG0.out⟩
 case rest =>
  obtain ⟨g, rfl, hgf⟩ := hcut
  have HG := Lib.hid hgf
  have ix0 : ∀ w, (Instr.index 193 (.agg #[.pointer (some ⟨g, 3, none⟩), .pointer (some ⟨g, 4, none⟩), .pointer (some ⟨g, 5, none⟩)]) (.int .i64 0)).run Tryz.prog w = .ok (.pointer (some ⟨g, 3, none⟩)) w := fun _ => by kernel_rfl
  have ix1 : ∀ w, (Instr.index 193 (.agg #[.pointer (some ⟨g, 3, none⟩), .pointer (some ⟨g, 4, none⟩), .pointer (some ⟨g, 5, none⟩)]) (.int .i64 1)).run Tryz.prog w = .ok (.pointer (some ⟨g, 4, none⟩)) w := fun _ => by kernel_rfl
  have ix2 : ∀ w, (Instr.index 193 (.agg #[.pointer (some ⟨g, 3, none⟩), .pointer (some ⟨g, 4, none⟩), .pointer (some ⟨g, 5, none⟩)]) (.int .i64 2)).run Tryz.prog w = .ok (.pointer (some ⟨g, 5, none⟩)) w := fun _ => by kernel_rfl
  clear hgf HS2 hn2 hn4 c0 c1 hs HC hu hlti hltd
  go_wp2_with fail
  go_loopw [69] (fun u wr => ∃ i : Nat, i ≤ 3 ∧ u = .int .i64 (i : Int) ∧ Gf w (some ⟨b, off, none⟩) N cap lo hi L g m n i wr) (fun u _ => 3 - (intOf u).toNat)
  case atStart => exact ⟨0, by omega, rfl, HG.out⟩
  case round =>
   clear HG
   obtain ⟨i, hi3, rfl, hgf⟩ := hrel
   have HG := Lib.hid hgf
   have e0 : wr.cell? ⟨g, 0, none⟩ = some (.int .i64 (m : Int)) := hgf.fr.cell 0
   clear hgf
   rcases (by omega : i = 0 ∨ i = 1 ∨ i = 2 ∨ i = 3) with rfl | rfl | rfl | rfl
   ·by_cases hin : 0 < n
    ·have hinI : decide ((0 : Int) < (n : Int)) = true := decide_eq_true (by omega)
     have hinN : decide (0 < n) = true := decide_eq_true hin
     have hc : ∀ W, Fs w (some ⟨b, off, none⟩) N cap lo hi L W → Calls Tryz.prog 86 #[.int .i64 8, .int .i64 4, .pointer (some ⟨w.heap.size, 0, none⟩)] W fun e w' => e = .returned (.int .u64 (leVal L 8 4 : Int)) ∧ W = w' := fun W S => HNum.out 8 4 (by have := Hlen.out; omega) (by decide) W S
     have q4 := leVal_lt L 8 4
     have v4 : IntKind.u32.wrap (leVal L 8 4 : Int) = (leVal L 8 4 : Int) := IntWalk.u32_in _ (by omega)
     have hst := fun {W : World} (S : Gf w (some ⟨b, off, none⟩) N cap lo hi L g m n 0 W) => S.step (by decide) hin
     have HSt : Hid (∀ (W : World), Gf w (some ⟨b, off, none⟩) N cap lo hi L g m n 0 W → Gf w (some ⟨b, off, none⟩) N cap lo hi L g m n 1 (W.setCell ⟨g, 3, none⟩ (.int .i32 (i32of (leVal L 8 4))))) := Lib.hid (fun W S => S.step (by decide) hin)
     have v5 : IntKind.i32.wrap (leVal L 8 4 : Int) = i32of (leVal L 8 4) := rfl
     clear hst hin q4
     generalize leVal L 8 4 = y at *
     generalize i32of y = y32 at *
     go_wp2_with (first | simp only [ix0] | fail)
     refine (hnb _).mono ?_
     rintro e w5 ⟨rfl, hb⟩
     have HG2 := Lib.hid (HG.out.next hb)
     clear hb HG e0
     go_wp2_with fail
     refine (hc _ HG2.out.fs).mono ?_
     rintro e w6 ⟨rfl, rfl⟩
     have fx := HG2.out.fr.free 3
     have cx := HG2.out.fr.cell 3
     change w5.cell? _ = some (Value.int .i32 (numAt L n 0 0)) at cx
     have HG3 := Lib.hid (HSt.out _ HG2.out)
     clear hc HG2
     go_wp2_with fail
     go_roundw
     case rel => exact ⟨1, by omega, rfl, HG3.out⟩
     case measure => first | (simp [intOf]; done) | (simp [intOf]; omega)
    ·have hinI : decide ((0 : Int) < (n : Int)) = false := decide_eq_false (by omega)
     have hinN : decide (0 < n) = false := decide_eq_false hin
     have HK := Lib.hid (numAt_keep L m n 0 hin)
     clear hin
     go_wp2_with (first | simp only [ix0] | fail)
     refine (hnb _).mono ?_
     rintro e w5 ⟨rfl, hb⟩
     have HG2 := Lib.hid (HG.out.next hb)
     clear hb HG e0
     go_wp2_with fail
     go_roundw
     case rel => exact ⟨1, by omega, rfl, ⟨HG2.out.fs, (by have := HG2.out.fr; rw [HK.out] at this; exact this), HG2.out.lt, HG2.out.hi⟩⟩
     case measure => first | (simp [intOf]; done) | (simp [intOf]; omega)
   ·by_cases hin : 1 < n
    ·have hinI : decide ((1 : Int) < (n : Int)) = true := decide_eq_true (by omega)
     have hinN : decide (1 < n) = true := decide_eq_true hin
     have hc : ∀ W, Fs w (some ⟨b, off, none⟩) N cap lo hi L W → Calls Tryz.prog 86 #[.int .i64 12, .int .i64 4, .pointer (some ⟨w.heap.size, 0, none⟩)] W fun e w' => e = .returned (.int .u64 (leVal L 12 4 : Int)) ∧ W = w' := fun W S => HNum.out 12 4 (by have := Hlen.out; omega) (by decide) W S
     have q4 := leVal_lt L 12 4
     have v4 : IntKind.u32.wrap (leVal L 12 4 : Int) = (leVal L 12 4 : Int) := IntWalk.u32_in _ (by omega)
     have hst := fun {W : World} (S : Gf w (some ⟨b, off, none⟩) N cap lo hi L g m n 1 W) => S.step (by decide) hin
     have HSt : Hid (∀ (W : World), Gf w (some ⟨b, off, none⟩) N cap lo hi L g m n 1 W → Gf w (some ⟨b, off, none⟩) N cap lo hi L g m n 2 (W.setCell ⟨g, 4, none⟩ (.int .i32 (i32of (leVal L 12 4))))) := Lib.hid (fun W S => S.step (by decide) hin)
     have v5 : IntKind.i32.wrap (leVal L 12 4 : Int) = i32of (leVal L 12 4) := rfl
     clear hst hin q4
     generalize leVal L 12 4 = y at *
     generalize i32of y = y32 at *
     go_wp2_with (first | simp only [ix1] | fail)
     refine (hnb _).mono ?_
     rintro e w5 ⟨rfl, hb⟩
     have HG2 := Lib.hid (HG.out.next hb)
     clear hb HG e0
     go_wp2_with fail
     refine (hc _ HG2.out.fs).mono ?_
     rintro e w6 ⟨rfl, rfl⟩
     have fx := HG2.out.fr.free 4
     have cx := HG2.out.fr.cell 4
     change w5.cell? _ = some (Value.int .i32 (numAt L n 1 1)) at cx
     have HG3 := Lib.hid (HSt.out _ HG2.out)
     clear hc HG2
     go_wp2_with fail
     go_roundw
     case rel => exact ⟨2, by omega, rfl, HG3.out⟩
     case measure => first | (simp [intOf]; done) | (simp [intOf]; omega)
    ·have hinI : decide ((1 : Int) < (n : Int)) = false := decide_eq_false (by omega)
     have hinN : decide (1 < n) = false := decide_eq_false hin
     have HK := Lib.hid (numAt_keep L m n 1 hin)
     clear hin
     go_wp2_with (first | simp only [ix1] | fail)
     refine (hnb _).mono ?_
     rintro e w5 ⟨rfl, hb⟩
     have HG2 := Lib.hid (HG.out.next hb)
     clear hb HG e0
     go_wp2_with fail
     go_roundw
     case rel => exact ⟨2, by omega, rfl, ⟨HG2.out.fs, (by have := HG2.out.fr; rw [HK.out] at this; exact this), HG2.out.lt, HG2.out.hi⟩⟩
     case measure => first | (simp [intOf]; done) | (simp [intOf]; omega)
   ·by_cases hin : 2 < n
    ·have hinI : decide ((2 : Int) < (n : Int)) = true := decide_eq_true (by omega)
     have hinN : decide (2 < n) = true := decide_eq_true hin
     have hc : ∀ W, Fs w (some ⟨b, off, none⟩) N cap lo hi L W → Calls Tryz.prog 86 #[.int .i64 16, .int .i64 4, .pointer (some ⟨w.heap.size, 0, none⟩)] W fun e w' => e = .returned (.int .u64 (leVal L 16 4 : Int)) ∧ W = w' := fun W S => HNum.out 16 4 (by have := Hlen.out; omega) (by decide) W S
     have q4 := leVal_lt L 16 4
     have v4 : IntKind.u32.wrap (leVal L 16 4 : Int) = (leVal L 16 4 : Int) := IntWalk.u32_in _ (by omega)
     have hst := fun {W : World} (S : Gf w (some ⟨b, off, none⟩) N cap lo hi L g m n 2 W) => S.step (by decide) hin
     have HSt : Hid (∀ (W : World), Gf w (some ⟨b, off, none⟩) N cap lo hi L g m n 2 W → Gf w (some ⟨b, off, none⟩) N cap lo hi L g m n 3 (W.setCell ⟨g, 5, none⟩ (.int .i32 (i32of (leVal L 16 4))))) := Lib.hid (fun W S => S.step (by decide) hin)
     have v5 : IntKind.i32.wrap (leVal L 16 4 : Int) = i32of (leVal L 16 4) := rfl
     clear hst hin q4
     generalize leVal L 16 4 = y at *
     generalize i32of y = y32 at *
     go_wp2_with (first | simp only [ix2] | fail)
     refine (hnb _).mono ?_
     rintro e w5 ⟨rfl, hb⟩
     have HG2 := Lib.hid (HG.out.next hb)
     clear hb HG e0
     go_wp2_with fail
     refine (hc _ HG2.out.fs).mono ?_
     rintro e w6 ⟨rfl, rfl⟩
     have fx := HG2.out.fr.free 5
     have cx := HG2.out.fr.cell 5
     change w5.cell? _ = some (Value.int .i32 (numAt L n 2 2)) at cx
     have HG3 := Lib.hid (HSt.out _ HG2.out)
     clear hc HG2
     go_wp2_with fail
     go_roundw
     case rel => exact ⟨3, by omega, rfl, HG3.out⟩
     case measure => first | (simp [intOf]; done) | (simp [intOf]; omega)
    ·have hinI : decide ((2 : Int) < (n : Int)) = false := decide_eq_false (by omega)
     have hinN : decide (2 < n) = false := decide_eq_false hin
     have HK := Lib.hid (numAt_keep L m n 2 hin)
     clear hin
     go_wp2_with (first | simp only [ix2] | fail)
     refine (hnb _).mono ?_
     rintro e w5 ⟨rfl, hb⟩
     have HG2 := Lib.hid (HG.out.next hb)
     clear hb HG e0
     go_wp2_with fail
     go_roundw
     case rel => exact ⟨3, by omega, rfl, ⟨HG2.out.fs, (by have := HG2.out.fr; rw [HK.out] at this; exact this), HG2.out.lt, HG2.out.hi⟩⟩
     case measure => first | (simp [intOf]; done) | (simp [intOf]; omega)
   ·have hfs := HG.out.fs
    have hfc := HG.out.fr
    have e1 : wr.cell? ⟨g, 1, none⟩ = some (.int .u16 (leVal L 2 2 : Int)) := hfc.cell 1
    have e2 : wr.cell? ⟨g, 2, none⟩ = some (.int .u32 (leVal L 4 4 : Int)) := hfc.cell 2
    have e3 : wr.cell? ⟨g, 3, none⟩ = some (.int .i32 (numAt L n 3 0)) := hfc.cell 3
    have e4 : wr.cell? ⟨g, 4, none⟩ = some (.int .i32 (numAt L n 3 1)) := hfc.cell 4
    have e5 : wr.cell? ⟨g, 5, none⟩ = some (.int .i32 (numAt L n 3 2)) := hfc.cell 5
    have hone := fr_one (frameOf L m n 3)
    have HFS := Lib.hid hfs
    have HOne := Lib.hid hone
    have HP := Lib.hid hfs.res
    have hfv : (frameOf L m n 3).cells = [.int .i64 (m : Int), .int .u16 (leVal L 2 2 : Int), .int .u32 (leVal L 4 4 : Int), .int .i32 (numAt L n 3 0), .int .i32 (numAt L n 3 1), .int .i32 (numAt L n 3 2)] := rfl
    rw [hfv] at hone
    have HO2 := Lib.hid hone
    have HV := Lib.hid hfv
    clear hfs hfc hone hfv HG HOne
    generalize numAt L n 3 0 = x3 at *
    generalize numAt L n 3 1 = x4 at *
    generalize numAt L n 3 2 = x5 at *
    generalize leVal L 2 2 = x1 at *
    generalize leVal L 4 4 = x2 at *
    go_wp2_with (refine wpList_store_row rfl 59 _ _ rfl (w.heap.size + 1) [.int .i64 (m : Int), .int .u16 (x1 : Int), .int .u32 (x2 : Int), .int .i32 x3, .int .i32 x4, .int .i32 x5].toArray rfl rfl _ _ HP.out (by kernel_rfl) rfl HO2.out ?_)
    refine bodyPost_ret (results_cell_tmp2_row rfl _ _ (w.heap.size + 1) 59 _ (0, 0) _ rfl (HP.out.row [.int .i64 (m : Int), .int .u16 (x1 : Int), .int .u32 (x2 : Int), .int .i32 x3, .int .i32 x4, .int .i32 x5]) Tryz.underlying59 rfl (by kernel_rfl)) rfl ?_
    exact ⟨by rw [HR.out]; unfold Fr.v; rw [HV.out]; rfl, Below.row HFS.out.below (by omega) _⟩
theorem first_any (A : Option Addr) (L : List UInt8) (N cap lo hi : Nat) (w : World) (h : RdL w lo hi A (L.map bv)) (hhi : hi ≤ w.heap.size) (hn : L.length = N) (hl : N ≤ 1000000) (hNc : N ≤ cap) : Calls Tryz.prog 67 #[.slice A N cap] w (GotI w L) := by
 rcases first_cases L with ⟨h1, h2⟩ | ⟨h0, ⟨h1, h2⟩ | ⟨hm, ⟨h1, h2⟩ | ⟨hl1, ⟨h1, h2⟩ | ⟨n, hk, hn3, _, _, ⟨h1, h2⟩ | ⟨hle, ⟨h1, h2⟩ | ⟨h1, h2⟩⟩⟩⟩⟩⟩
 ·exact first_nil A L N cap lo hi w h hn h1 h2
 ·exact first_mark A L N cap lo hi w h hn h0 h1 h2
 ·obtain rfl : N = 1 := by omega
  exact first_one A L cap lo hi w h h1 h0 hm h2
 ·exact first_kind A L N cap lo hi w h hn h0 hm hl1 h1 h2
 ·exact first_few A L N cap lo hi w h hn h0 hm hl1 n hk hn3 h1 h2
 ·exact first_ok A L N cap lo hi w h hhi hn hl hNc h0 hm hl1 n hk hn3 hle h1 h2
 ·exact first_sum A L N cap lo hi w h hn hl hNc h0 hm hl1 n hk hn3 hle h1 h2
end Frm
end
end Go.Proofs.YtekjehbkmlodmaaGreat
