/-
  The walks of the reference of package wide: sums.
-/
import Derived.Test.YtmiplljcnchjkaaNumW3
namespace Go.Proofs.Ytmiplljcnchjkaa
open Go.RowKit
set_option linter.unusedVariables false
namespace Num

set_option maxRecDepth 100000 in
set_option maxHeartbeats 2000000 in
theorem add_any (X Y Z : Nat) (r : Bool) (hX : X < 2 ^ 128) (hY : Y < 2 ^ 128) (hZ : X + Y = Z) (hr : r = decide (Z < 2 ^ 127)) (w : World) :
    Calls Try.prog 26 #[nv false X, nv false Y] w fun e w' => e = .returned (.tuple #[nv false Z, .bool r]) ∧ Below w.heap.size w w' := by
  have hZl : Z < 2 ^ 129 := by omega
  have hZm : (X + Y) % 2 ^ 129 = Z := by rw [hZ]; exact Nat.mod_eq_of_lt hZl
  have HZl := Lib.hid hZl
  have HZm := Lib.hid hZm
  have Hr := Lib.hid hr
  clear hX hY hZ hr hZl hZm
  have hzN := zeroN
  have hns : (num false 0).set 0 (.bool false) = num false 0 := rfl
  obtain ⟨L0, hL0⟩ : ∃ L0, L0 = num false 0 := ⟨_, rfl⟩
  rw [← hL0] at hzN hns
  have hnl : L0.length = 130 := by rw [hL0]; exact num_len _ _
  have hnn : ¬ L0 = [] := by intro e; rw [e] at hnl; cases hnl
  have iL0 : (Try.prog.info? 32).map (·.size) = some L0.toArray.size := by rw [hL0]; exact infoN2 _ _
  have oL0 : ∀ u ∈ L0, u.oneCell' = true := by rw [hL0]; exact num_one _ _
  have HL0 := Lib.hid hL0
  have Hnl := Lib.hid hnl
  obtain ⟨LX, hLX⟩ : ∃ L, L = num false X := ⟨_, rfl⟩
  obtain ⟨LY, hLY⟩ : ∃ L, L = num false Y := ⟨_, rfl⟩
  have s1 : (w.alloc (.cells LX.toArray 32)).heap.size = w.heap.size + 1 := by simp
  have s2 : ((w.alloc (.cells LX.toArray 32)).alloc (.cells LY.toArray 32)).heap.size = w.heap.size + 1 + 1 := by simp
  have s3 : (((w.alloc (.cells LX.toArray 32)).alloc (.cells LY.toArray 32)).alloc (.cells L0.toArray 32)).heap.size = w.heap.size + 1 + 1 + 1 := by simp
  have k2 := (((Blk.mk w 32 LX).alloc (.cells LY.toArray 32)).alloc (.cells L0.toArray 32))
  have k3 := ((Blk.mk (w.alloc (.cells LX.toArray 32)) 32 LY).alloc (.cells L0.toArray 32))
  rw [s1] at k3
  have k4 := Blk.mk ((w.alloc (.cells LX.toArray 32)).alloc (.cells LY.toArray 32)) 32 L0
  rw [s2] at k4
  have k6 := Blk.mk (((w.alloc (.cells LX.toArray 32)).alloc (.cells LY.toArray 32)).alloc (.cells L0.toArray 32)) 32 L0
  rw [s3] at k6
  have kb := _root_.Go.Proofs.Ytmiplljcnchjkaa.bt (bl w (.cells LX.toArray 32)) (_root_.Go.Proofs.Ytmiplljcnchjkaa.bt (bl _ (.cells LY.toArray 32)) (_root_.Go.Proofs.Ytmiplljcnchjkaa.bt (bl _ (.cells L0.toArray 32)) (bl _ (.cells L0.toArray 32))))
  have c2 : (((w.alloc (.cells LX.toArray 32)).alloc (.cells LY.toArray 32)).alloc (.cells L0.toArray 32)).cell? ⟨w.heap.size, 0, none⟩ = some (.bool false) := by rw [k2.cell 0, hLX]; rfl
  have t6 : ((((w.alloc (.cells LX.toArray 32)).alloc (.cells LY.toArray 32)).alloc (.cells L0.toArray 32)).alloc (.cells L0.toArray 32)).there (w.heap.size + 1 + 1 + 1) 0 L0.toArray.size := by
    rw [show L0.toArray.size = 130 by rw [hL0]; exact numA _ _]
    exact blk_there k6 0 130 (by rw [hnl]; decide)
  have q2 := blk_apart L0 _ (w.heap.size + 1 + 1 + 1) 0 (k2.alloc (.cells L0.toArray 32)) (show w.heap.size ≠ w.heap.size + 1 + 1 + 1 by omega)
  have q3 := blk_apart L0 _ (w.heap.size + 1 + 1 + 1) 0 (k3.alloc (.cells L0.toArray 32)) (show w.heap.size + 1 ≠ w.heap.size + 1 + 1 + 1 by omega)
  have q4 := blk_apart L0 _ (w.heap.size + 1 + 1 + 1) 0 (k4.alloc (.cells L0.toArray 32)) (show w.heap.size + 1 + 1 ≠ w.heap.size + 1 + 1 + 1 by omega)
  have q6 := full_mid k6 L0 rfl
  have qb := below_cells L0 _ (w.heap.size + 1 + 1 + 1) 0 kb (show w.heap.size ≤ w.heap.size + 1 + 1 + 1 by omega)
  have T6 := Lib.hid t6
  have Q2 := Lib.hid q2
  have Q3 := Lib.hid q3
  have Q4 := Lib.hid q4
  have Q6 := Lib.hid q6
  have QB := Lib.hid qb
  have HLX := Lib.hid hLX
  have HLY := Lib.hid hLY
  have hcell : ∀ E : World, Blk E w.heap.size 32 LX → Blk E (w.heap.size + 1) 32 LY → E.cell? ⟨w.heap.size, 0, none⟩ = some (.bool false) ∧ E.cell? ⟨w.heap.size + 1, 0, none⟩ = some (.bool false) ∧ E.rangeAt w.heap.size 1 (bt X) ∧ E.rangeAt (w.heap.size + 1) 1 (bt Y) := fun E h1 h2 => by
    rw [HLX.out] at h1
    rw [HLY.out] at h2
    exact ⟨h1.cell 0, h2.cell 0, num_range h1, num_range h2⟩
  obtain ⟨d2, d3, r2, r3⟩ := hcell _ q2 q3
  have R2 := Lib.hid r2
  have R3 := Lib.hid r3
  clear k2 k3 k4 k6 kb t6 q2 q3 q4 q6 qb s1 s2 s3 hL0 hnl hcell r2 r3
  unfold nv
  rw [← hLX, ← hLY]
  clear hLX hLY
  go_enter Try.func26, Try.ntmps26
  go_wp2_with (first
    | (refine wpList_store_mid rfl 32 _ _ rfl (w.heap.size + 1 + 1 + 1) 0 L0.toArray rfl rfl ?ht iL0 (all_oneCell_toArray oL0) ?_; (case ht => exact T6.out); generalize ((((w.alloc (.cells LX.toArray 32)).alloc (.cells LY.toArray 32)).alloc (.cells L0.toArray 32)).alloc (.cells L0.toArray 32)).setCells (w.heap.size + 1 + 1 + 1) 0 L0 = W at *)
    | (refine wpList_load_mid rfl 30 _ rfl w.heap.size 1 rfl (bt X) _ ?hr Try.underlying30 rfl (infoA3 _) ?_; (case hr => exact R2.out))
    | (refine wpList_load_mid rfl 30 _ rfl (w.heap.size + 1) 1 rfl (bt Y) _ ?hr Try.underlying30 rfl (infoA3 _) ?_; (case hr => exact R3.out)))
  refine (addBits_any X Y Z HZm.out _).mono ?_
  rintro e w2 ⟨rfl, hb2⟩
  have P4 := Lib.hid (Q4.out.next hb2)
  have P6 := Lib.hid (Q6.out.next hb2)
  have PB := Lib.hid (_root_.Go.Proofs.Ytmiplljcnchjkaa.bt QB.out hb2)
  obtain ⟨g4, hg4⟩ : ∃ g4, g4 = w.heap.size + 1 + 1 := ⟨_, rfl⟩
  obtain ⟨g6, hg6⟩ : ∃ g6, g6 = w.heap.size + 1 + 1 + 1 := ⟨_, rfl⟩
  rw [← hg4] at P4
  rw [← hg6] at P6
  have p6 := P6.out
  rw [HL0.out] at p6
  have T7 : Hid (w2.there (w.heap.size + 1 + 1 + 1) 1 (bt Z).toArray.size) := Lib.hid (by rw [btA, ← hg6]; exact blk_there p6 1 129 (by rw [num_len]; decide))
  have iZ := infoA2 Z
  have oZ := bt_one Z
  have N4 := Lib.hid (blk_apart (bt Z) w2 g6 1 P4.out (by omega))
  have N6 := Lib.hid (num_mid p6 Z)
  have NB := Lib.hid (below_cells (bt Z) w2 g6 1 PB.out (by omega))
  rw [hg6] at N4 N6 NB
  have R6 := Lib.hid (nums_range N6.out)
  clear hb2 Q2 Q3 Q4 Q6 QB R2 R3 d2 d3 c2 P4 P6 PB p6 T6 hzN hns
  unfold av
  go_wp2_with (first
    | (refine wpList_store_mid rfl 30 _ _ rfl (w.heap.size + 1 + 1 + 1) 1 (bt Z).toArray rfl rfl ?ht iZ (all_oneCell_toArray oZ) ?_; (case ht => exact T7.out); generalize w2.setCells (w.heap.size + 1 + 1 + 1) 1 (bt Z) = w3 at *)
    | (refine wpList_load_mid rfl 32 _ rfl (w.heap.size + 1 + 1 + 1) 0 rfl (num false Z) _ ?hr Try.underlying32 rfl (infoN3 _ _) ?_; (case hr => exact R6.out)))
  refine (zero_any false Z HZl.out _).mono ?_
  rintro e w4 ⟨rfl, hb4⟩
  have P4 := Lib.hid (N4.out.next hb4)
  have P6 := Lib.hid (N6.out.next hb4)
  have PB := Lib.hid (_root_.Go.Proofs.Ytmiplljcnchjkaa.bt NB.out hb4)
  have f6 := P6.out.free 0
  have c6 : w4.cell? ⟨w.heap.size + 1 + 1 + 1, 0, none⟩ = some (.bool false) := P6.out.cell 0
  have S6 : Hid (Blk (w4.setCell ⟨w.heap.size + 1 + 1 + 1, 0, none⟩ (.bool false)) (w.heap.size + 1 + 1 + 1) 32 (num false Z)) := Lib.hid (P6.out.put 0 (.bool false))
  have S4 := Lib.hid (P4.out.far (p := ⟨w.heap.size + 1 + 1 + 1, 0, none⟩) (show g4 ≠ w.heap.size + 1 + 1 + 1 by omega) (.bool false))
  have SB := Lib.hid (PB.out.setCell (p := ⟨w.heap.size + 1 + 1 + 1, 0, none⟩) (show w.heap.size ≤ w.heap.size + 1 + 1 + 1 by omega) (.bool false))
  clear hb4 N4 N6 NB R6 T7
  by_cases hz : Z = 0
  · rw [decide_eq_true hz]
    have Hz := Lib.hid hz
    clear hz
    go_wp2
    refine wp_region_any (by kernel_rfl) ?_
    change wpAny _ _ _ _ _ _ _ (w4.setCell ⟨w.heap.size + 1 + 1 + 1, 0, none⟩ (.bool false)).drew
    have V6 := Lib.hid (S6.out.drew)
    have V4 := Lib.hid (S4.out.drew)
    have VB := Lib.hid (SB.out.drew)
    have hR : (w4.setCell ⟨w.heap.size + 1 + 1 + 1, 0, none⟩ (.bool false)).drew.rangeAt (w.heap.size + 1 + 1 + 1) 0 (num false Z) := nums_range V6.out
    clear S6 S4 SB P6 P4 PB f6 c6
    generalize (w4.setCell ⟨w.heap.size + 1 + 1 + 1, 0, none⟩ (.bool false)).drew = wd at *
    refine wpAny_split 3 (L := #[false, false, false]) (f := 3) (S := fun w' => w'.rangeAt (w.heap.size + 1 + 1 + 1) 0 (num false Z)) (by kernel_rfl) hR (fun hHeld => ?_)
    simp only [List.take_succ_cons, List.take_zero, List.drop_succ_cons, List.drop_zero]
    refine wpAnyH_take (i := 0) (oi := ⟨some 44, _, _, _, _, _⟩) (v := .agg (num false Z).toArray) rfl (by kernel_rfl) (by kernel_rfl) (by kernel_rfl) (fun _ _ _ h => h) (yieldsIf_load_mid (by rfl) _ _ rfl (w.heap.size + 1 + 1 + 1) 0 rfl (num false Z) _ (fun w h => h) Try.underlying32 rfl (infoN3 _ _)) (by assumption) ?_
    simp only [Act.put, List.setIfInBounds_toArray, List.set_cons_zero, List.set_cons_succ]
    refine wpAnyH_take (i := 1) (oi := ⟨some 45, _, _, _, _, _⟩) (v := .agg (num false Z).toArray) rfl (by kernel_rfl) (by kernel_rfl) (by kernel_rfl) (fun _ _ _ h => h) (yieldsIf_load_mid (by rfl) _ _ rfl (w.heap.size + 1 + 1 + 1) 0 rfl (num false Z) _ (fun w h => h) Try.underlying32 rfl (infoN3 _ _)) (by assumption) ?_
    simp only [Act.put, List.setIfInBounds_toArray, List.set_cons_zero, List.set_cons_succ]
    refine wpAnyH_ready (rs := [2]) (by kernel_rfl) (by simp) ?_
    refine AllReadyH.cons (o := ⟨some 46, _, _, _, _, _⟩) rfl (fun K hK => ?_) AllReadyH.nil
    go_simp
    refine (fits_any Z r Hr.out HZl.out _).mono ?_
    rintro e w6 ⟨rfl, hb6⟩
    go_wp2_with fail
    have U6 := Lib.hid (V6.out.next hb6)
    have U4 := Lib.hid (V4.out.next hb6)
    have UB := Lib.hid (_root_.Go.Proofs.Ytmiplljcnchjkaa.bt VB.out hb6)
    refine hK.out _ _ (nums_range U6.out) (fun hHeld => ?_)
    clear hK K hb6 hR
    simp only [List.setIfInBounds_toArray, List.set_cons_zero, List.set_cons_succ]
    refine wpAnyH_done (by kernel_rfl) ?_ _
    change wpList _ _ _ _ _ _
    have T4 : Hid (w6.there (w.heap.size + 1 + 1) 0 (num false Z).toArray.size) := Lib.hid (by rw [numA, ← hg4]; exact blk_there U4.out 0 130 (by rw [Hnl.out]; decide))
    have iE := infoN2 false Z
    have oE := num_one false Z
    have X4 : Blk (w6.setCells (w.heap.size + 1 + 1) 0 (num false Z)) (w.heap.size + 1 + 1) 32 (num false Z) := by rw [← hg4]; exact full_mid U4.out _ (by rw [num_len, Hnl.out])
    have XB := Lib.hid (below_cells (num false Z) w6 (w.heap.size + 1 + 1) 0 UB.out (by omega))
    have X4h := Lib.hid X4
    clear X4 hHeld
    go_wp2_with (refine wpList_store_mid rfl 32 _ _ rfl (w.heap.size + 1 + 1) 0 (num false Z).toArray rfl rfl ?ht iE (all_oneCell_toArray oE) ?_; (case ht => exact T4.out); generalize w6.setCells (w.heap.size + 1 + 1) 0 (num false Z) = w7 at *)
    have hl := run_loadVar_mid (P := Try.prog) w7 (w.heap.size + 1 + 1) 0 32 (num false Z) _ (nums_range X4h.out) Try.underlying32 rfl (infoN3 _ _)
    refine bodyPost_ret (v := .tuple #[.agg (num false Z).toArray, .bool r]) (w := w7) ?_ rfl ⟨rfl, XB.out⟩
    refine (results_cell_tmp (p := 4) (u := 5) (ty := 32) rfl _ _ _).trans ?_
    change ((loadVar 32 ⟨w.heap.size + 1 + 1, 0, none⟩).run Try.prog w7).andThen _ = _
    rw [hl]
    rfl
  · rw [decide_eq_false hz]
    have Hz := Lib.hid hz
    clear hz
    go_wp2
    refine wp_region_any (by kernel_rfl) ?_
    change wpAny _ _ _ _ _ _ _ (w4).drew
    have V6 := Lib.hid (P6.out.drew)
    have V4 := Lib.hid (P4.out.drew)
    have VB := Lib.hid (PB.out.drew)
    have hR : (w4).drew.rangeAt (w.heap.size + 1 + 1 + 1) 0 (num false Z) := nums_range V6.out
    clear S6 S4 SB P6 P4 PB f6 c6
    generalize (w4).drew = wd at *
    refine wpAny_split 3 (L := #[false, false, false]) (f := 3) (S := fun w' => w'.rangeAt (w.heap.size + 1 + 1 + 1) 0 (num false Z)) (by kernel_rfl) hR (fun hHeld => ?_)
    simp only [List.take_succ_cons, List.take_zero, List.drop_succ_cons, List.drop_zero]
    refine wpAnyH_take (i := 0) (oi := ⟨some 44, _, _, _, _, _⟩) (v := .agg (num false Z).toArray) rfl (by kernel_rfl) (by kernel_rfl) (by kernel_rfl) (fun _ _ _ h => h) (yieldsIf_load_mid (by rfl) _ _ rfl (w.heap.size + 1 + 1 + 1) 0 rfl (num false Z) _ (fun w h => h) Try.underlying32 rfl (infoN3 _ _)) (by assumption) ?_
    simp only [Act.put, List.setIfInBounds_toArray, List.set_cons_zero, List.set_cons_succ]
    refine wpAnyH_take (i := 1) (oi := ⟨some 45, _, _, _, _, _⟩) (v := .agg (num false Z).toArray) rfl (by kernel_rfl) (by kernel_rfl) (by kernel_rfl) (fun _ _ _ h => h) (yieldsIf_load_mid (by rfl) _ _ rfl (w.heap.size + 1 + 1 + 1) 0 rfl (num false Z) _ (fun w h => h) Try.underlying32 rfl (infoN3 _ _)) (by assumption) ?_
    simp only [Act.put, List.setIfInBounds_toArray, List.set_cons_zero, List.set_cons_succ]
    refine wpAnyH_ready (rs := [2]) (by kernel_rfl) (by simp) ?_
    refine AllReadyH.cons (o := ⟨some 46, _, _, _, _, _⟩) rfl (fun K hK => ?_) AllReadyH.nil
    go_simp
    refine (fits_any Z r Hr.out HZl.out _).mono ?_
    rintro e w6 ⟨rfl, hb6⟩
    go_wp2_with fail
    have U6 := Lib.hid (V6.out.next hb6)
    have U4 := Lib.hid (V4.out.next hb6)
    have UB := Lib.hid (_root_.Go.Proofs.Ytmiplljcnchjkaa.bt VB.out hb6)
    refine hK.out _ _ (nums_range U6.out) (fun hHeld => ?_)
    clear hK K hb6 hR
    simp only [List.setIfInBounds_toArray, List.set_cons_zero, List.set_cons_succ]
    refine wpAnyH_done (by kernel_rfl) ?_ _
    change wpList _ _ _ _ _ _
    have T4 : Hid (w6.there (w.heap.size + 1 + 1) 0 (num false Z).toArray.size) := Lib.hid (by rw [numA, ← hg4]; exact blk_there U4.out 0 130 (by rw [Hnl.out]; decide))
    have iE := infoN2 false Z
    have oE := num_one false Z
    have X4 : Blk (w6.setCells (w.heap.size + 1 + 1) 0 (num false Z)) (w.heap.size + 1 + 1) 32 (num false Z) := by rw [← hg4]; exact full_mid U4.out _ (by rw [num_len, Hnl.out])
    have XB := Lib.hid (below_cells (num false Z) w6 (w.heap.size + 1 + 1) 0 UB.out (by omega))
    have X4h := Lib.hid X4
    clear X4 hHeld
    go_wp2_with (refine wpList_store_mid rfl 32 _ _ rfl (w.heap.size + 1 + 1) 0 (num false Z).toArray rfl rfl ?ht iE (all_oneCell_toArray oE) ?_; (case ht => exact T4.out); generalize w6.setCells (w.heap.size + 1 + 1) 0 (num false Z) = w7 at *)
    have hl := run_loadVar_mid (P := Try.prog) w7 (w.heap.size + 1 + 1) 0 32 (num false Z) _ (nums_range X4h.out) Try.underlying32 rfl (infoN3 _ _)
    refine bodyPost_ret (v := .tuple #[.agg (num false Z).toArray, .bool r]) (w := w7) ?_ rfl ⟨rfl, XB.out⟩
    refine (results_cell_tmp (p := 4) (u := 5) (ty := 32) rfl _ _ _).trans ?_
    change ((loadVar 32 ⟨w.heap.size + 1 + 1, 0, none⟩).run Try.prog w7).andThen _ = _
    rw [hl]
    rfl
end Num
end Go.Proofs.Ytmiplljcnchjkaa
