/-
  The walk of package recorder's read.
-/
import Derived.Test.YtijijfggppnbpaaRecD
namespace Go.Proofs.Ytijijfggppnbpaa
open Go.RowKit
set_option linter.unusedVariables false
namespace Rec
open Frm Txt
theorem results_tmp_cell_tmp_row {P : Program} {fn : Func} {p u v : Tmp} {ty : TypeId} (h : fn.results = #[.tmp u, .cell p ty, .tmp v]) (tmps : Array Value) (w : World) (g : Nat) (t : TypeId) (cs : Array Value) (fr : Nat × Nat) (d : TypeDesc)
    (hp : tmps.getD p undef = .pointer (some ⟨g, 0, none⟩)) (hg : w.heap[g]? = some (.cells cs t fr))
    (hu : P.underlying ty = some d) (hd : (match d with | .struct _ | .array _ _ => true | _ => false) = true) (hi : (P.info? ty).map (·.size) = some cs.size) :
    (results fn tmps).run P w = .ok (.tuple #[tmps.getD u undef, .agg cs, tmps.getD v undef]) w := by
  have hp' : tmps[p]?.getD undef = .pointer (some ⟨g, 0, none⟩) := by simpa using hp
  simp [results, h, hp', asAddr, run_loadVar_row w g t ty cs fr d hg hu hd hi, Result.andThen]
def GotD (w : World) (C : List UInt8) (e : Ending) (w' : World) : Prop := e = .returned (.tuple #[.int .u64 ((readL C).1 : Int), (readL C).2.1.v, .bool (readL C).2.2]) ∧ Below w.heap.size w w'
theorem GotD.no {w w' : World} {C : List UInt8} (h : readL C = (0, zeroF, false)) (hb : Below w.heap.size w w') : GotD w C (.returned (.tuple #[.int .u64 0, .agg zeroF.cells.toArray, .bool false])) w' := ⟨by rw [h]; rfl, hb⟩
theorem leVal_take (C : List UInt8) : leVal (C.take 36) 0 8 = leVal C 0 8 := by
  simp [leVal]
theorem put6 {w : World} {g : Nat} {t : TypeId} {a0 a1 a2 a3 a4 a5 : Value} (h : Blk w g t [a0, a1, a2, a3, a4, a5]) (y0 y1 y2 y3 y4 y5 : Value) : Blk ((((((w.setCell ⟨g, 0, none⟩ y0).setCell ⟨g, 1, none⟩ y1).setCell ⟨g, 2, none⟩ y2).setCell ⟨g, 3, none⟩ y3).setCell ⟨g, 4, none⟩ y4).setCell ⟨g, 5, none⟩ y5).drew g t [y0, y1, y2, y3, y4, y5] := by
  have h0 := h.put 0 y0
  have h1 := h0.put 1 y1
  have h2 := h1.put 2 y2
  have h3 := h2.put 3 y3
  have h4 := h3.put 4 y4
  have h5 := h4.put 5 y5
  exact h5.drew
set_option maxRecDepth 100000 in
set_option maxHeartbeats 1000000 in
theorem read_any (A : Option Addr) (C : List UInt8) (cap lo hi : Nat) (w : World) (h : RdL w lo hi A (C.map bv)) (hC : C.length = 40) (hcap : 40 ≤ cap) :
    Calls Try.prog 68 #[.slice A 40 cap] w (GotD w C) := by
  have hl4 : (C.drop 36).length = 4 := by rw [List.length_drop, hC]
  obtain ⟨t0, t1, t2, t3, ht⟩ := four_of hl4
  obtain ⟨a, ha⟩ : ∃ a, a = C.take 36 := ⟨_, rfl⟩
  have ha36 : a.length = 36 := by rw [ha, List.length_take, hC]; rfl
  have hat : a ++ [t0, t1, t2, t3] = C := by rw [ha, ← ht, List.take_append_drop]
  obtain ⟨w1, hw1⟩ : ∃ w1, w1 = w.alloc (.cells zeroF.cells.toArray 25) := ⟨_, rfl⟩
  have hb : Crc.Bytes w1 A (a ++ [t0, t1, t2, t3]) := by
    rw [hat, hw1]
    exact (h.alloc _).bytes
  have hget := Crc.get_core A a t0 t1 t2 t3 36 cap w1 ha36 hb (by omega) (by omega)
  have hres : Blk w1 w.heap.size 25 zeroF.cells := by rw [hw1]; exact Blk.mk _ _ _
  have hkeep : Below w.heap.size w w1 := by rw [hw1]; exact bl _ _
  have hrL : ∀ (hg : Crc.get a [t0, t1, t2, t3] = false), readL C = (0, zeroF, false) := fun hg => by
    unfold readL
    rw [← ha, ht, if_pos hg]
  have HNO := Lib.hid hrL
  have HRES := Lib.hid hres
  have HKP := Lib.hid hkeep
  have HW := Lib.hid hw1
  have HA := Lib.hid ha
  have HA36 := Lib.hid ha36
  have HC := Lib.hid hC
  have HT := Lib.hid ht
  have hv0 : zeroF.cells.toArray = #[.int .i64 0, .int .u16 0, .int .u32 0, .int .i32 0, .int .i32 0, .int .i32 0] := rfl
  rw [hv0] at hw1 HW
  clear h hC hl4 ht ha ha36 hat hb hres hkeep hrL hv0
  unfold Crc.Got at hget
  have hgetc := hget
  obtain ⟨gb, hgb⟩ : ∃ gb, gb = Crc.get a [t0, t1, t2, t3] := ⟨_, rfl⟩
  rw [← hgb] at hget HNO
  have HGB := Lib.hid hgb
  clear hgb hgetc
  rw [show w1 = w.alloc (.cells #[.int .i64 0, .int .u16 0, .int .u32 0, .int .i32 0, .int .i32 0, .int .i32 0] 25) from hw1] at hget HRES HKP
  clear hw1 HW
  go_enter Try.func68, Try.ntmps68
  go_wp2_with fail
  refine hget.mono ?_
  rintro e w2 ⟨v, rfl, hv, hb⟩
  have HR2 := Lib.hid (HRES.out.next hb)
  have HK2 := Lib.hid (bt HKP.out hb)
  clear hb hget HRES HKP
  cases gb with
  | false =>
    have hv' : v = .slice none 0 0 := hv
    subst hv'
    clear hv
    go_wp2_with (refine wpList_store_row rfl 25 _ _ rfl w.heap.size zeroF.cells.toArray rfl rfl _ _ HR2.out (by kernel_rfl) rfl (fr_one zeroF) ?_)
    refine bodyPost_ret (results_tmp_cell_tmp_row rfl _ _ w.heap.size 25 _ (0, 0) _ rfl (HR2.out.row zeroF.cells) Try.underlying25 rfl (by kernel_rfl)) rfl ?_
    exact GotD.no (HNO.out trivial) (Below.row HK2.out (Nat.le_refl _) _)
  | true =>
    have hO : w2.ownsRow _ 5 1 v a.length (a.map bv) := hv
    rw [HA36.out] at hO
    obtain ⟨gi, ci, rfl⟩ := own_some hO (by decide)
    obtain ⟨A', c', e', hr, hc', _, _⟩ := own_rd hO
    injection e' with e1 e2 e3
    subst e1 e3
    clear e2
    obtain ⟨n, hn⟩ : ∃ n, n = leVal a 0 8 := ⟨_, rfl⟩
    have hnlt : n < 18446744073709551616 := by rw [hn]; exact leVal_lt a 0 8
    have hr := hr.wide (Nat.zero_le _) (Nat.le_refl _)
    have hbg := Txt.get_ok (some ⟨gi, 0, none⟩) a 36 ci 0 8 _ _ w2 hr HA36.out (by decide) (by decide) (by decide)
    rw [← hn] at hbg
    obtain ⟨z, hz⟩ : ∃ z, z = (a.getD 8 0).toNat := ⟨_, rfl⟩
    have hz8 : z < 256 := by rw [hz]; exact (a.getD 8 0).toNat_lt
    have cell : ∀ j, j < 36 → w2.cell? ⟨gi, j, none⟩ = some (.int .u8 ((a.getD j 0).toNat : Int)) := fun j hj => by
      have hc := hr.news _ rfl j (bv (a.getD j 0)) (by rw [List.getElem?_map, List.getD_eq_getElem?_getD, List.getElem?_eq_getElem (by rw [HA36.out]; exact hj)]; rfl)
      rw [add_off, Nat.zero_add] at hc
      exact hc
    have c8 : w2.cell? ⟨gi, 8, none⟩ = some (.int .u8 (z : Int)) := by rw [hz]; exact cell 8 (by decide)
    have wz : IntKind.i64.wrap (z : Int) = (z : Int) := IntWalk.i64_in _ (by omega)
    have HN := Lib.hid hn
    have HZ := Lib.hid hz
    have HRD := Lib.hid hr
    have HCELL := Lib.hid cell
    have hunf : Hid (readL C = if n = 0 ∨ 27 < z then (0, zeroF, false) else if (firstL ((a.drop 9).take z)).2.2 ≠ 0 ∨ (firstL ((a.drop 9).take z)).2.1 ≠ z then (0, zeroF, false) else if (a.drop (9 + z)).all (· == 0) = false then (0, zeroF, false) else (n, (firstL ((a.drop 9).take z)).1, true)) := Lib.hid (by
      have e8 : C.getD 8 0 = a.getD 8 0 := by rw [HA.out, List.getD_eq_getElem?_getD, List.getD_eq_getElem?_getD, List.getElem?_take_of_lt (by decide)]
      have en : leVal C 0 8 = n := by rw [HN.out, HA.out, leVal_take]
      unfold readL
      rw [← HA.out, HT.out, ← HGB.out, e8, ← HZ.out, en, if_neg (by decide)])
    clear hv hO hr hn hz cell HNO
    go_wp2_with fail
    refine hbg.mono ?_
    rintro e w3 ⟨rfl, rfl⟩
    clear hbg
    by_cases h1 : n = 0
    · have d1 : ((n : Int) == 0) = true := by rw [beq_iff_eq]; omega
      have HNO : Hid (readL C = (0, zeroF, false)) := Lib.hid (by rw [hunf.out, if_pos (.inl h1)])
      clear h1
      go_wp2_with (refine wpList_store_row rfl 25 _ _ rfl w.heap.size zeroF.cells.toArray rfl rfl _ _ HR2.out (by kernel_rfl) rfl (fr_one zeroF) ?_)
      refine bodyPost_ret (results_tmp_cell_tmp_row rfl _ _ w.heap.size 25 _ (0, 0) _ rfl (HR2.out.row zeroF.cells) Try.underlying25 rfl (by kernel_rfl)) rfl ?_
      exact GotD.no (HNO.out) (Below.row HK2.out (Nat.le_refl _) _)
    · have d1 : ((n : Int) == 0) = false := by rw [beq_eq_false_iff_ne]; omega
      by_cases h2 : 27 < z
      · have d2 : decide (27 < (z : Int)) = true := decide_eq_true (by omega)
        have HNO : Hid (readL C = (0, zeroF, false)) := Lib.hid (by rw [hunf.out, if_pos (.inr h2)])
        clear h1
        go_wp2_with (refine wpList_store_row rfl 25 _ _ rfl w.heap.size zeroF.cells.toArray rfl rfl _ _ HR2.out (by kernel_rfl) rfl (fr_one zeroF) ?_)
        refine bodyPost_ret (results_tmp_cell_tmp_row rfl _ _ w.heap.size 25 _ (0, 0) _ rfl (HR2.out.row zeroF.cells) Try.underlying25 rfl (by kernel_rfl)) rfl ?_
        exact GotD.no (HNO.out) (Below.row HK2.out (Nat.le_refl _) _)
      · have d2 : decide (27 < (z : Int)) = false := decide_eq_false (by omega)
        have hlM : ((a.drop 9).take z).length = z := by rw [List.length_take, List.length_drop, HA36.out]; omega
        obtain ⟨M, hM⟩ : ∃ M, M = (a.drop 9).take z := ⟨_, rfl⟩
        have hrM : RdL w2 0 w2.heap.size (some ⟨gi, 9, none⟩) (M.map bv) := by
          have := (HRD.out.drop 9).take z
          rw [Nat.zero_add, ← List.map_drop, ← List.map_take, ← hM] at this
          exact this
        have hfst := first_any (some ⟨gi, 9, none⟩) M z (ci - 9) _ _ w2 hrM (Nat.le_refl _) (by rw [hM]; exact hlM) (by omega) (by omega)
        have hunf2 : Hid (readL C = if (firstL M).2.2 ≠ 0 ∨ (firstL M).2.1 ≠ z then (0, zeroF, false) else if (a.drop (9 + z)).all (· == 0) = false then (0, zeroF, false) else (n, (firstL M).1, true)) := Lib.hid (by rw [hunf.out, if_neg (by omega), hM])
        have hbf := bytes_first M
        obtain ⟨q, hq⟩ : ∃ q, q = 9 + z := ⟨_, rfl⟩
        have yq : IntKind.i64.wrap (9 + (z : Int)) = (q : Int) := by rw [IntWalk.i64_in _ (by omega)]; omega
        have q9 : (9 : Int) ≤ (q : Int) := by omega
        have q36 : (q : Int) ≤ 36 := by omega
        have qc : (q : Int) ≤ (ci : Int) := by omega
        have c9 : ci ≠ 9 := by omega
        unfold GotI at hfst
        obtain ⟨cd, hcd⟩ : ∃ cd, cd = (firstL M).2.2 := ⟨_, rfl⟩
        obtain ⟨mz, hmz⟩ : ∃ mz, mz = (firstL M).2.1 := ⟨_, rfl⟩
        obtain ⟨f, hf⟩ : ∃ f, f = (firstL M).1 := ⟨_, rfl⟩
        rw [← hcd, ← hmz, ← hf] at hfst
        have hunf3 : Hid (readL C = if cd ≠ 0 ∨ mz ≠ z then (0, zeroF, false) else if (a.drop (9 + z)).all (· == 0) = false then (0, zeroF, false) else (n, f, true)) := Lib.hid (by rw [hunf2.out, ← hcd, ← hmz, ← hf])
        have HB24 : Hid (cd = 0 → mz ≤ 24) := Lib.hid (fun h => by
          rcases hbf with ⟨h', _⟩ | ⟨_, _, _, _, _, h24, _⟩
          · exact absurd (hcd.symm.trans h) h'
          · rw [hmz]; exact h24)
        have hqs : q - 9 = z := by omega
        have HQ := Lib.hid hq
        clear hM hlM hrM hbf hcd hmz hf hunf hunf2 hq
        obtain ⟨x1, x2, x3, x4, x5, x6⟩ := f
        unfold Fr.v Fr.cells at hfst
        go_wp2_with fail
        refine hfst.mono ?_
        rintro e w3 ⟨rfl, hb⟩
        have HR3 := Lib.hid ((HR2.out.next hb).next (bl w3 (.cells #[.int .i64 x1, .int .u16 (x2 : Int), .int .u32 (x3 : Int), .int .i32 x4, .int .i32 x5, .int .i32 x6] 25)))
        have HK3 := Lib.hid (bt (bt HK2.out hb) (bl w3 (.cells #[.int .i64 x1, .int .u16 (x2 : Int), .int .u32 (x3 : Int), .int .i32 x4, .int .i32 x5, .int .i32 x6] 25)))
        have HRD3 := Lib.hid ((HRD.out.next hb).next (bl w3 (.cells #[.int .i64 x1, .int .u16 (x2 : Int), .int .u32 (x3 : Int), .int .i32 x4, .int .i32 x5, .int .i32 x6] 25)))
        have HX3 := Lib.hid (Blk.mk w3 25 [.int .i64 x1, .int .u16 (x2 : Int), .int .u32 (x3 : Int), .int .i32 x4, .int .i32 x5, .int .i32 x6])
        have hs3 := HK2.out.size
        have hs4 := hb.size
        have hrlt := HR2.out.lt
        clear hb hfst HR2 HK2 HRD HCELL
        by_cases h3 : cd = 0
        · subst h3
          have d3 : ((0 : Int) != 0) = false := rfl
          by_cases h4 : mz = z
          · subst h4
            have d4 : ((mz : Int) != (mz : Int)) = false := by rw [bne_eq_false_iff_eq]
            have hm24 := HB24.out rfl
            have c10 : ci ≠ q := by have := HQ.out; omega
            have q36' : q ≤ 36 := by omega
            have q0 : (0 : Int) ≤ (q : Int) := by omega
            have hq33 : q ≤ 33 := by have := HQ.out; omega
            have hunf4 : Hid (readL C = if (a.drop q).all (· == 0) = false then (0, zeroF, false) else (n, ⟨x1, x2, x3, x4, x5, x6⟩, true)) := Lib.hid (by rw [hunf3.out, if_neg (by omega), HQ.out])
            clear hunf3 HB24 c8 hm24
            go_wp2_with fail
            generalize hw4 : w3.alloc (.cells #[.int .i64 x1, .int .u16 (x2 : Int), .int .u32 (x3 : Int), .int .i32 x4, .int .i32 x5, .int .i32 x6] 25) = w4 at *
            clear hw4
            go_loop [64] (fun s64 => ∃ i : Nat, s64 = .int .i64 (i : Int) ∧ i ≤ 36 - q ∧ ∀ j, j < i → a.getD (q + j) 0 = 0) (fun s64 => 36 - q - (intOf s64).toNat)
            case atStart => exact ⟨0, rfl, by omega, fun j hj => by omega⟩
            case round =>
              obtain ⟨i, rfl, hi, hall⟩ := hrel
              have HALL := Lib.hid hall
              clear hall
              by_cases hlt : i < 36 - q
              · have dlt : decide (i < 36 - q) = true := decide_eq_true hlt
                obtain ⟨bz, hbz⟩ : ∃ bz, bz = a.getD (q + i) 0 := ⟨_, rfl⟩
                have cz : w4.cell? ⟨gi, q + i, none⟩ = some (.int .u8 (bz.toNat : Int)) := by
                  have hc := HRD3.out.news _ rfl (q + i) (bv (a.getD (q + i) 0)) (by rw [List.getElem?_map, List.getD_eq_getElem?_getD, List.getElem?_eq_getElem (by rw [HA36.out]; omega)]; rfl)
                  rw [add_off, Nat.zero_add, ← hbz] at hc
                  exact hc
                have i0 : (0 : Int) ≤ (i : Int) := by omega
                have i1 : (i : Int) < ((36 - q : Nat) : Int) := by omega
                have HBZ := Lib.hid hbz
                clear hbz
                by_cases h5 : bz = 0
                · have d5 : ((bz.toNat : Int) != 0) = false := by rw [bne_eq_false_iff_eq, h5]; rfl
                  have HB0 := Lib.hid h5
                  clear h5
                  go_wp2_with fail
                  go_round
                  case rel => exact ⟨i + 1, by go_num, by omega, fun j hj => by
                    rcases Nat.lt_or_ge j i with h | h
                    · exact HALL.out j h
                    · obtain rfl : j = i := by omega
                      rw [← HBZ.out, HB0.out]⟩
                  case measure => simp [intOf]; omega
                · have h5n : bz.toNat ≠ 0 := fun h => h5 (UInt8.toNat_inj.1 (by rw [h]; rfl))
                  have d5 : ((bz.toNat : Int) != 0) = true := by rw [bne_iff_ne]; omega
                  have HNO : Hid (readL C = (0, zeroF, false)) := Lib.hid (by
                    rw [hunf4.out, if_pos]
                    rw [← Bool.not_eq_true, List.all_eq_true]
                    intro hh
                    have hm : a.getD (q + i) 0 ∈ a.drop q := by
                      rw [List.getD_eq_getElem?_getD, List.getElem?_eq_getElem (by rw [HA36.out]; omega)]
                      refine List.mem_iff_getElem.2 ⟨i, by rw [List.length_drop, HA36.out]; omega, ?_⟩
                      rw [List.getElem_drop]
                      rfl
                    have := hh _ hm
                    rw [beq_iff_eq, ← HBZ.out] at this
                    exact h5 this)
                  clear h5 h5n
                  go_wp2_with (refine wpList_store_row rfl 25 _ _ rfl w.heap.size zeroF.cells.toArray rfl rfl _ _ HR3.out (by kernel_rfl) rfl (fr_one zeroF) ?_)
                  refine bodyPost_ret (results_tmp_cell_tmp_row rfl _ _ w.heap.size 25 _ (0, 0) _ rfl (HR3.out.row zeroF.cells) Try.underlying25 rfl (by kernel_rfl)) rfl ?_
                  exact GotD.no (HNO.out) (Below.row HK3.out (Nat.le_refl _) _)
              · have dlt : decide (i < 36 - q) = false := decide_eq_false hlt
                obtain rfl : i = 36 - q := by omega
                have HYES : Hid (readL C = (n, ⟨x1, x2, x3, x4, x5, x6⟩, true)) := Lib.hid (by
                  rw [hunf4.out, if_neg]
                  rw [Bool.not_eq_false, List.all_eq_true]
                  intro x hx
                  obtain ⟨j, hj, rfl⟩ := List.mem_iff_getElem.1 hx
                  rw [List.length_drop, HA36.out] at hj
                  have := HALL.out j hj
                  rw [List.getD_eq_getElem?_getD, List.getElem?_eq_getElem (by rw [HA36.out]; omega)] at this
                  rw [List.getElem_drop, beq_iff_eq]
                  exact this)
                have y0 : w4.cell? ⟨w3.heap.size, 0, none⟩ = some (.int .i64 x1) := HX3.out.cell 0
                have y1 : w4.cell? ⟨w3.heap.size, 1, none⟩ = some (.int .u16 (x2 : Int)) := HX3.out.cell 1
                have y2 : w4.cell? ⟨w3.heap.size, 2, none⟩ = some (.int .u32 (x3 : Int)) := HX3.out.cell 2
                have y3 : w4.cell? ⟨w3.heap.size, 3, none⟩ = some (.int .i32 x4) := HX3.out.cell 3
                have y4 : w4.cell? ⟨w3.heap.size, 4, none⟩ = some (.int .i32 x5) := HX3.out.cell 4
                have y5 : w4.cell? ⟨w3.heap.size, 5, none⟩ = some (.int .i32 x6) := HX3.out.cell 5
                clear HALL hlt
                go_wp2_with fail
                have f0 := HR3.out.free 0
                have f1 := HR3.out.free 1
                have f2 := HR3.out.free 2
                have f3 := HR3.out.free 3
                have f4 := HR3.out.free 4
                have f5 := HR3.out.free 5
                have z0 : w4.cell? ⟨w.heap.size, 0, none⟩ = some (.int .i64 0) := HR3.out.cell 0
                have z1 : w4.cell? ⟨w.heap.size, 1, none⟩ = some (.int .u16 0) := HR3.out.cell 1
                have z2 : w4.cell? ⟨w.heap.size, 2, none⟩ = some (.int .u32 0) := HR3.out.cell 2
                have z3 : w4.cell? ⟨w.heap.size, 3, none⟩ = some (.int .i32 0) := HR3.out.cell 3
                have z4 : w4.cell? ⟨w.heap.size, 4, none⟩ = some (.int .i32 0) := HR3.out.cell 4
                have z5 : w4.cell? ⟨w.heap.size, 5, none⟩ = some (.int .i32 0) := HR3.out.cell 5
                go_region
                go_wp2_with fail
                have hP : Blk ((((((w4.setCell ⟨w.heap.size, 0, none⟩ (.int .i64 x1)).setCell ⟨w.heap.size, 1, none⟩ (.int .u16 (x2 : Int))).setCell ⟨w.heap.size, 2, none⟩ (.int .u32 (x3 : Int))).setCell ⟨w.heap.size, 3, none⟩ (.int .i32 x4)).setCell ⟨w.heap.size, 4, none⟩ (.int .i32 x5)).setCell ⟨w.heap.size, 5, none⟩ (.int .i32 x6)).drew w.heap.size 25 [.int .i64 x1, .int .u16 (x2 : Int), .int .u32 (x3 : Int), .int .i32 x4, .int .i32 x5, .int .i32 x6] := put6 (show Blk w4 w.heap.size 25 [.int .i64 0, .int .u16 0, .int .u32 0, .int .i32 0, .int .i32 0, .int .i32 0] from HR3.out) _ _ _ _ _ _
                refine bodyPost_ret (results_tmp_cell_tmp_row rfl _ _ w.heap.size 25 _ (0, 0) _ rfl hP Try.underlying25 rfl (by kernel_rfl)) rfl ?_
                refine ⟨by rw [HYES.out]; rfl, ?_⟩
                have hle : w.heap.size ≤ w.heap.size := Nat.le_refl _
                exact ((((((HK3.out.setCell (p := ⟨w.heap.size, 0, none⟩) hle _).setCell (p := ⟨w.heap.size, 1, none⟩) hle _).setCell (p := ⟨w.heap.size, 2, none⟩) hle _).setCell (p := ⟨w.heap.size, 3, none⟩) hle _).setCell (p := ⟨w.heap.size, 4, none⟩) hle _).setCell (p := ⟨w.heap.size, 5, none⟩) hle _).drew
          · have d4 : ((mz : Int) != (z : Int)) = true := by rw [bne_iff_ne]; omega
            have HNO : Hid (readL C = (0, zeroF, false)) := Lib.hid (by rw [hunf3.out, if_pos (.inr h4)])
            go_wp2_with (refine wpList_store_row rfl 25 _ _ rfl w.heap.size zeroF.cells.toArray rfl rfl _ _ HR3.out (by kernel_rfl) rfl (fr_one zeroF) ?_)
            refine bodyPost_ret (results_tmp_cell_tmp_row rfl _ _ w.heap.size 25 _ (0, 0) _ rfl (HR3.out.row zeroF.cells) Try.underlying25 rfl (by kernel_rfl)) rfl ?_
            exact GotD.no (HNO.out) (Below.row HK3.out (Nat.le_refl _) _)
        · have d3 : (cd != 0) = true := by rw [bne_iff_ne]; exact h3
          have HNO : Hid (readL C = (0, zeroF, false)) := Lib.hid (by rw [hunf3.out, if_pos (.inl h3)])
          clear h3
          go_wp2_with (refine wpList_store_row rfl 25 _ _ rfl w.heap.size zeroF.cells.toArray rfl rfl _ _ HR3.out (by kernel_rfl) rfl (fr_one zeroF) ?_)
          refine bodyPost_ret (results_tmp_cell_tmp_row rfl _ _ w.heap.size 25 _ (0, 0) _ rfl (HR3.out.row zeroF.cells) Try.underlying25 rfl (by kernel_rfl)) rfl ?_
          exact GotD.no (HNO.out) (Below.row HK3.out (Nat.le_refl _) _)
end Rec
end Go.Proofs.Ytijijfggppnbpaa
