/-
  The walk of package text: what frame a line is.
-/
import Derived.Test.YtijijfggppnbpaaTxtR
namespace Go.Proofs.Ytijijfggppnbpaa
open Go.RowKit
set_option linter.unusedVariables false

theorem results_cell_tmp_row {P : Program} {fn : Func} {p u : Tmp} {ty : TypeId} (h : fn.results = #[.cell p ty, .tmp u]) (tmps : Array Value) (w : World) (g : Nat) (t : TypeId) (cs : Array Value) (fr : Nat × Nat) (d : TypeDesc)
    (hp : tmps.getD p undef = .pointer (some ⟨g, 0, none⟩)) (hg : w.heap[g]? = some (.cells cs t fr))
    (hu : P.underlying ty = some d) (hd : (match d with | .struct _ | .array _ _ => true | _ => false) = true) (hi : (P.info? ty).map (·.size) = some cs.size) :
    (results fn tmps).run P w = .ok (.tuple #[.agg cs, tmps.getD u undef]) w := by
  rw [results_cell_tmp h, hp]
  simp [asAddr, run_loadVar_row w g t ty cs fr d hg hu hd hi, Result.andThen]
theorem Blk.row {w : World} {g : Nat} {t : TypeId} {l : List Value} (h : Blk w g t l) (cs : List Value) : Blk (w.setRow g cs.toArray) g t cs := setRow_heap w g _ _ t _ h
theorem setRow_other (w : World) (g : Nat) (cs : Array Value) (k : Nat) (hk : k ≠ g) : (w.setRow g cs).heap[k]? = w.heap[k]? := by
  simp only [World.setRow, Array.getElem?_modify]
  rw [if_neg (fun e => hk e.symm)]
theorem Below.row {B : Nat} {w wr : World} (h : Below B w wr) {g : Nat} (hg : B ≤ g) (cs : Array Value) : Below B w (wr.setRow g cs) :=
  ⟨h.os, h.tape, h.output, by simpa using h.size, fun i hi => (setRow_other wr g cs i (by omega)).trans (h.block i hi)⟩
namespace Txt
open Frm (Fr codeF numK numN GotF)

theorem fr_one (f : Fr) : f.cells.toArray.all (·.oneCell') = true := by simp [Fr.cells, Value.oneCell']
/-- the way out with no frame -/
theorem GotG.no {w wr : World} {l : List UInt8} {c : Int} (h : getR l = (zeroF, c)) (hb : Below w.heap.size w wr) : GotG w l (.returned (.tuple #[.agg zeroF.cells.toArray, .int .i64 c])) wr := ⟨by rw [h]; rfl, hb⟩
set_option maxRecDepth 100000 in
set_option maxHeartbeats 1000000 in
theorem xget_none (l : List UInt8) (hl : l.length ≤ 1000000) (hw : words l = none) (hr : getR l = (zeroF, 3)) (w : World) : Calls Try.prog 39 #[.string (tx l)] w (GotG w l) := by
  have hwd := fun w => xWords_any l hl w
  have HP0 := Lib.hid (Blk.mk w 25 zeroF.cells)
  have HB0 := Lib.hid (bl w (.cells zeroF.cells.toArray 25))
  have HW := Lib.hid hw
  have HR := Lib.hid hr
  clear hw hr
  go_enter Try.func39, Try.ntmps39
  go_wp2_with fail
  refine (hwd _).mono ?_
  rintro e w1 ⟨⟨v, b, rfl, hc⟩, hb⟩
  rcases hc with ⟨out, h1, _⟩ | ⟨_, rfl, rfl⟩
  · exact absurd (h1.symm.trans HW.out) (by simp)
  have HP1 := Lib.hid (HP0.out.next hb)
  have HB1 := Lib.hid (_root_.Go.Proofs.Ytijijfggppnbpaa.bt HB0.out hb)
  clear hb hwd HB0 HP0
  go_wp2_with (refine wpList_store_row rfl 25 _ _ rfl w.heap.size zeroF.cells.toArray rfl rfl _ _ HP1.out (by kernel_rfl) rfl (fr_one zeroF) ?_)
  refine bodyPost_ret (results_cell_tmp_row rfl _ _ w.heap.size 25 _ (0, 0) _ rfl (HP1.out.row zeroF.cells) Try.underlying25 rfl (by kernel_rfl)) rfl ?_
  exact GotG.no HR.out (Below.row HB1.out (Nat.le_refl _) _)
set_option maxRecDepth 100000 in
set_option maxHeartbeats 1000000 in
theorem xget_kind (l : List UInt8) (hl : l.length ≤ 1000000) (w0 : List UInt8) (vs : List (List UInt8)) (hw : words l = some (w0 :: vs)) (hk : kindOf w0 = 0) (hr : getR l = (zeroF, 13)) (w : World) : Calls Try.prog 39 #[.string (tx l)] w (GotG w l) := by
  have hwd := fun w => xWords_any l hl w
  have hkd := fun w => xKind_any w0 w
  have HP0 := Lib.hid (Blk.mk w 25 zeroF.cells)
  have HB0 := Lib.hid (bl w (.cells zeroF.cells.toArray 25))
  have HW := Lib.hid hw
  have HR := Lib.hid hr
  have HK := Lib.hid hk
  clear hw hr hk
  go_enter Try.func39, Try.ntmps39
  go_wp2_with fail
  refine (hwd _).mono ?_
  rintro e w1 ⟨⟨v, bb, rfl, hc⟩, hb⟩
  rcases hc with ⟨out, h1, rfl, hown⟩ | ⟨h1, _, _⟩
  case inr => exact absurd (h1.symm.trans HW.out) (by simp)
  obtain rfl : out = w0 :: vs := Option.some.inj (h1.symm.trans HW.out)
  obtain ⟨A, cap, rfl, hrd, hnc, _, _⟩ := own_rd hown
  obtain ⟨b, off, rfl, _, _, _, hcell⟩ := hrd.some (by simp)
  have c0 : w1.cell? ⟨b, off, none⟩ = some (.string (tx w0)) := hcell 0 (sv w0) rfl
  have i0 : (0 : Int) < ((w0 :: vs).length : Int) := by simp
  generalize (w0 :: vs).length = M at *
  have HP1 := Lib.hid (HP0.out.next hb)
  have HB1 := Lib.hid (_root_.Go.Proofs.Ytijijfggppnbpaa.bt HB0.out hb)
  clear hb hwd HB0 HP0 hown hrd hcell h1
  go_wp2_with fail
  refine (hkd _).mono ?_
  rintro e w2 ⟨k, rfl, hik, rfl⟩
  obtain rfl : k = 0 := by rw [hik.eq, HK.out]
  clear hik
  go_wp2_with (refine wpList_store_row rfl 25 _ _ rfl w.heap.size zeroF.cells.toArray rfl rfl _ _ HP1.out (by kernel_rfl) rfl (fr_one zeroF) ?_)
  refine bodyPost_ret (results_cell_tmp_row rfl _ _ w.heap.size 25 _ (0, 0) _ rfl (HP1.out.row zeroF.cells) Try.underlying25 rfl (by kernel_rfl)) rfl ?_
  exact GotG.no HR.out (Below.row HB1.out (Nat.le_refl _) _)
set_option maxRecDepth 100000 in
set_option maxHeartbeats 1000000 in
theorem xget_size (l : List UInt8) (hl : l.length ≤ 1000000) (w0 : List UInt8) (vs : List (List UInt8)) (hw : words l = some (w0 :: vs)) (n : Nat) (hn : numN (kindOf w0) = n) (hn3 : n ≤ 3) (hk1 : 1 ≤ kindOf w0) (hk7 : kindOf w0 ≤ 7) (hvl : vs.length ≠ 2 + n) (hv80 : vs.length ≤ 1000000) (hr : getR l = (zeroF, 5)) (w : World) : Calls Try.prog 39 #[.string (tx l)] w (GotG w l) := by
  have hwd := fun w => xWords_any l hl w
  have hkd := fun w => xKind_any w0 w
  have hnm := fun w => Frm.numbers_any ((kindOf w0 : Nat) : Int) w
  have hnk : numK ((kindOf w0 : Nat) : Int) = n := by unfold numK; rw [← hn]; rfl
  rw [hnk] at hnm
  have HP0 := Lib.hid (Blk.mk w 25 zeroF.cells)
  have HB0 := Lib.hid (bl w (.cells zeroF.cells.toArray 25))
  have HW := Lib.hid hw
  have HR := Lib.hid hr
  obtain ⟨K, hK⟩ : ∃ k, kindOf w0 = k := ⟨_, rfl⟩
  rw [hK] at hnm hk1 hk7
  have HK := Lib.hid hK
  have hk0 : ((K : Int) == 0) = false := beq_eq_false_iff_ne.2 (by omega)
  clear hw hr hnk hn hK
  have h3n : IntKind.i64.wrap (3 + (n : Int)) = 3 + (n : Int) := IntWalk.i64_in _ (by omega)
  go_enter Try.func39, Try.ntmps39
  go_wp2_with fail
  refine (hwd _).mono ?_
  rintro e w1 ⟨⟨v, bb, rfl, hc⟩, hb⟩
  rcases hc with ⟨out, h1, rfl, hown⟩ | ⟨h1, _, _⟩
  case inr => exact absurd (h1.symm.trans HW.out) (by simp)
  obtain rfl : out = w0 :: vs := Option.some.inj (h1.symm.trans HW.out)
  obtain ⟨A, cap, rfl, hrd, hnc, _, _⟩ := own_rd hown
  obtain ⟨b, off, rfl, _, _, _, hcell⟩ := hrd.some (by simp)
  have c0 : w1.cell? ⟨b, off, none⟩ = some (.string (tx w0)) := hcell 0 (sv w0) rfl
  obtain ⟨M, hM⟩ : ∃ m, m = (w0 :: vs).length := ⟨_, rfl⟩
  have hM2 : M ≠ 3 + n := by rw [hM, List.length_cons]; omega
  have hM3 : 0 < M := by rw [hM]; simp
  rw [← hM]
  have i0 : (0 : Int) < (M : Int) := by omega
  have hne1 : ((M : Int) == 3 + (n : Int)) = false := beq_eq_false_iff_ne.2 (by omega)
  have hne2 : ((M : Int) != 3 + (n : Int)) = true := bne_iff_ne.2 (by omega)
  have HP1 := Lib.hid (HP0.out.next hb)
  have HB1 := Lib.hid (_root_.Go.Proofs.Ytijijfggppnbpaa.bt HB0.out hb)
  clear hb hwd HB0 HP0 hown hrd hcell h1 hM hM2 hnc
  go_wp2_with fail
  refine (hkd _).mono ?_
  rintro e w2 ⟨k, rfl, hik, rfl⟩
  obtain rfl : k = K := by rw [hik.eq, HK.out]
  clear hik
  go_wp2_with fail
  refine (hnm _).mono ?_
  rintro e w3 ⟨rfl, hb3⟩
  have HP2 := Lib.hid (HP1.out.next hb3)
  have HB2 := Lib.hid (_root_.Go.Proofs.Ytijijfggppnbpaa.bt HB1.out hb3)
  clear hb3 HP1 HB1
  go_wp2_with (refine wpList_store_row rfl 25 _ _ rfl w.heap.size zeroF.cells.toArray rfl rfl _ _ HP2.out (by kernel_rfl) rfl (fr_one zeroF) ?_)
  refine bodyPost_ret (results_cell_tmp_row rfl _ _ w.heap.size 25 _ (0, 0) _ rfl (HP2.out.row zeroF.cells) Try.underlying25 rfl (by kernel_rfl)) rfl ?_
  exact GotG.no HR.out (Below.row HB2.out (Nat.le_refl _) _)
end Txt
end Go.Proofs.Ytijijfggppnbpaa
