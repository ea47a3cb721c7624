/-
  No more and no less: the square of the root of a number of 128 bits: the statement. (Printed by mkwide.py.)
-/
import Derived.Test.YtmiplljcnchjkaaNumW8
import Derived.Deep.RegionHeld3
import Derived.Deep.DeepCutAuto
namespace Go.Proofs.Ytmiplljcnchjkaa
open Go.RowKit
set_option linter.unusedVariables false
namespace Num

set_option maxRecDepth 100000 in
set_option maxHeartbeats 1000000 in
theorem wide_law (N hi lo : Nat) (hN : N < 2 ^ 127) (hh : N / 18446744073709551616 = hi) (hl : N % 18446744073709551616 = lo) (w : World) :
    Calls Try.prog 4 #[.agg #[.int .i64 (hi : Int), .int .u64 (lo : Int)]] w fun e w' => e = .returned (.bool true) ∧ Below w.heap.size w w' := by
  have root1 := fun w => Root.rwide_any N hi lo (by omega) hh hl w
  have from1 := fun w => from_any N hi lo hN hh hl w
  have hneg : ¬ ((hi : Int) < 0) := by omega
  have hzN := zeroN
  obtain ⟨L0, hL0⟩ : ∃ L0, L0 = num false 0 := ⟨_, rfl⟩
  rw [← hL0] at hzN
  have hnl : L0.length = 130 := by rw [hL0]; exact num_len _ _
  have Hnl := Lib.hid hnl
  have Hnlx := fun Z => Lib.hid (show (num false Z).length = 130 from num_len _ _)
  have iE := infoN2 false N
  have oE := num_one false N
  have HN := Lib.hid hN
  have KB := Lib.hid (bl w (.cells #[.int .i64 (hi : Int), .int .u64 (lo : Int)] 28))
  clear hL0 hnl hN hh hl
  unfold nv at *
  go_enter Try.func4, Try.ntmps4
  go_wp2_with fail
  refine (root1 _).mono ?_
  rintro e w2 ⟨r, rfl, hr, hb2⟩
  have e0 := (hb2.cell (p := ⟨w.heap.size, 0, none⟩) (show w.heap.size < (w.alloc (.cells #[.int .i64 (hi : Int), .int .u64 (lo : Int)] 28)).heap.size by simp))
  have e1 := (hb2.cell (p := ⟨w.heap.size, 1, none⟩) (show w.heap.size < (w.alloc (.cells #[.int .i64 (hi : Int), .int .u64 (lo : Int)] 28)).heap.size by simp))
  have c0 : w2.cell? ⟨w.heap.size, 0, none⟩ = some (.int .i64 (hi : Int)) := by rw [e0]; simp [go_sem]
  have c1 : w2.cell? ⟨w.heap.size, 1, none⟩ = some (.int .u64 (lo : Int)) := by rw [e1]; simp [go_sem]
  have B2 := Lib.hid (_root_.Go.Proofs.Ytmiplljcnchjkaa.bt KB.out hb2)
  obtain ⟨hrl, hrh⟩ := hr
  have hr64 : r < 18446744073709551616 := by
    apply Classical.byContradiction
    intro h
    have := Nat.mul_le_mul (show 18446744073709551616 ≤ r by omega) (show 18446744073709551616 ≤ r by omega)
    have := HN.out
    omega
  obtain ⟨y, hy⟩ : ∃ y, r * r = y := ⟨_, rfl⟩
  have hz : (r + 1) * (r + 1) = y + (r + r) + 1 := by rw [Nat.mul_add, Nat.add_mul, hy]; omega
  rw [hy] at hrl
  rw [hz] at hrh
  have hyl : y < 2 ^ 127 := Nat.lt_of_le_of_lt hrl HN.out
  obtain ⟨s, hs⟩ : ∃ s, r + r = s := ⟨_, rfl⟩
  obtain ⟨z, hzz⟩ : ∃ z, y + s = z := ⟨_, rfl⟩
  have sq1 := fun w => square_any r y hr64 hy w
  have nu1 := fun w => number_any r hr64 w
  have p1 := fun w => plus_any r r s (by omega) (by omega) hs w
  have p2 := fun w => plus_any y s z (by omega) (by omega) hzz w
  have cm1 := fun w => cmp_any y N (by omega) (by have := HN.out; omega) hrl w
  have cm2 := fun w => cmp_any N z (by have := HN.out; omega) (by omega) (by omega) w
  have iF := infoN2 false y
  have oF := num_one false y
  have iG := infoN2 false z
  have oG := num_one false z
  clear KB e0 e1 hb2 hrl hrh hr64 hy hz hyl hs hzz root1
  unfold nv at *
  go_wp2_with fail
  refine (from1 _).mono ?_
  rintro e w5 ⟨rfl, hb5⟩
  have B5 := Lib.hid (_root_.Go.Proofs.Ytmiplljcnchjkaa.bt B2.out hb5)
  have T5 : Hid ((w5.alloc (.cells L0.toArray 32)).there w5.heap.size 0 (num false N).toArray.size) := Lib.hid (by rw [numA]; exact blk_there (Blk.mk w5 32 L0) 0 130 (by rw [Hnl.out]; decide))
  have X5 : Hid (Blk ((w5.alloc (.cells L0.toArray 32)).setCells w5.heap.size 0 (num false N)) w5.heap.size 32 (num false N)) := Lib.hid (full_mid (Blk.mk w5 32 L0) _ (by rw [(Hnlx N).out, Hnl.out]))
  have XB : Hid (Below w.heap.size w ((w5.alloc (.cells L0.toArray 32)).setCells w5.heap.size 0 (num false N))) := Lib.hid (below_cells _ _ _ _ (_root_.Go.Proofs.Ytmiplljcnchjkaa.bt B5.out (bl _ _)) (show w.heap.size ≤ w5.heap.size from B5.out.size))
  have hs5 : w.heap.size ≤ w5.heap.size := B5.out.size
  clear B5 hb5 B2 c0 c1
  go_wp2_with (refine wpList_store_mid rfl 32 _ _ rfl w5.heap.size 0 (num false N).toArray rfl rfl ?ht iE (all_oneCell_toArray oE) ?_; (case ht => exact T5.out); generalize (w5.alloc (.cells L0.toArray 32)).setCells w5.heap.size 0 (num false N) = w6 at *)
  generalize hg5 : w5.heap.size = g4 at *
  clear hg5 T5
  refine (sq1 _).mono ?_
  rintro e w7 ⟨rfl, hb7⟩
  have X7 := X5.out.next hb7
  have B7 := Lib.hid (_root_.Go.Proofs.Ytmiplljcnchjkaa.bt XB.out hb7)
  have hlt7 := X7.lt
  have T7 : Hid ((w7.alloc (.cells L0.toArray 32)).there w7.heap.size 0 (num false y).toArray.size) := Lib.hid (by rw [numA]; exact blk_there (Blk.mk w7 32 L0) 0 130 (by rw [Hnl.out]; decide))
  have Y8 : Hid (Blk ((w7.alloc (.cells L0.toArray 32)).setCells w7.heap.size 0 (num false y)) w7.heap.size 32 (num false y)) := Lib.hid (full_mid (Blk.mk w7 32 L0) _ (by rw [(Hnlx y).out, Hnl.out]))
  have X8 : Hid (Blk ((w7.alloc (.cells L0.toArray 32)).setCells w7.heap.size 0 (num false y)) g4 32 (num false N)) := Lib.hid (blk_apart _ _ _ _ (X7.alloc _) (by omega))
  have B8 : Hid (Below w.heap.size w ((w7.alloc (.cells L0.toArray 32)).setCells w7.heap.size 0 (num false y))) := Lib.hid (below_cells _ _ _ _ (_root_.Go.Proofs.Ytmiplljcnchjkaa.bt B7.out (bl _ _)) (show w.heap.size ≤ w7.heap.size from B7.out.size))
  have hs7 : w.heap.size ≤ w7.heap.size := B7.out.size
  clear B7 hb7 X7 X5 XB hlt7
  go_upto_region 6 with (refine wpList_store_mid rfl 32 _ _ rfl w7.heap.size 0 (num false y).toArray rfl rfl ?ht iF (all_oneCell_toArray oF) ?_; (case ht => exact T7.out); generalize (w7.alloc (.cells L0.toArray 32)).setCells w7.heap.size 0 (num false y) = w8 at *)
  generalize hg7 : w7.heap.size = g5 at *
  clear hg7 T7
  simp only [Act.put]
  go_cut [6] (fun sz wx => ∃ g6, sz = .pointer (some ⟨g6, 0, none⟩) ∧ Blk wx g4 32 (num false N) ∧ Blk wx g5 32 (num false y) ∧ Blk wx g6 32 (num false z) ∧ Below w.heap.size w wx)
  case first =>
    have Yd := Lib.hid Y8.out.drew
    have Xd := Lib.hid X8.out.drew
    have Bd := Lib.hid B8.out.drew
    refine wp_region_any (by kernel_rfl) ?_
    change wpAny _ _ _ _ _ _ _ w8.drew
    generalize w8.drew = d at *
    clear X8 Y8 B8
    refine wpAny_split 8 (L := #[false, false, false, false, false, false, false, false]) (f := 8) (S := fun w' => w'.rangeAt g5 0 (num false y)) (by kernel_rfl) (nums_range Yd.out) (fun hHeld => ?_)
    simp only [List.take_succ_cons, List.take_zero, List.drop_succ_cons, List.drop_zero]
    refine wpAnyH_take (i := 0) (oi := ⟨some 24, _, _, _, _, _⟩) (v := .agg (num false y).toArray) rfl (by kernel_rfl) (by kernel_rfl) (by kernel_rfl) (fun _ _ _ h => h) (yieldsIf_load_mid (by rfl) _ _ rfl g5 0 rfl (num false y) _ (fun w h => h) Try.underlying32 rfl (infoN3 _ _)) (by assumption) ?_
    simp only [Act.put, List.setIfInBounds_toArray, List.set_cons_zero, List.set_cons_succ]
    refine wpAnyH_take (i := 1) (oi := ⟨some 25, _, _, _, _, _⟩) (v := ?_) rfl (by kernel_rfl) (by kernel_rfl) (by kernel_rfl) (fun _ _ _ h => h) (Or.inl ⟨by rfl, ?_⟩) (by assumption) ?_
    rotate_left
    · (intro w hSw; (try dsimp only at hSw); go_simp; try (with_reducible rfl))
    simp only [Act.put, List.setIfInBounds_toArray, List.set_cons_zero, List.set_cons_succ]
    refine wpAnyH_take (i := 3) (oi := ⟨some 27, _, _, _, _, _⟩) (v := ?_) rfl (by kernel_rfl) (by kernel_rfl) (by kernel_rfl) (fun _ _ _ h => h) (Or.inl ⟨by rfl, ?_⟩) (by assumption) ?_
    rotate_left
    · (intro w hSw; (try dsimp only at hSw); go_simp; try (with_reducible rfl))
    simp only [Act.put, List.setIfInBounds_toArray, List.set_cons_zero, List.set_cons_succ]
    refine wpAnyH_ready (rs := [2, 7]) (by kernel_rfl) (by simp) ?_
    refine AllReadyH.cons (o := ⟨some 26, _, _, _, _, _⟩) rfl (fun K hK => ?_) ?_
    · go_simp
      refine (nu1 _).mono ?_
      rintro e v1 ⟨rfl, hb⟩
      have Yv1 := Lib.hid (Yd.out.next hb)
      have Xv1 := Lib.hid (Xd.out.next hb)
      have Bv1 := Lib.hid (_root_.Go.Proofs.Ytmiplljcnchjkaa.bt Bd.out hb)
      clear hb hHeld
      go_wp2_with fail
      refine hK.out _ _ (nums_range Yv1.out) (fun hHeld => ?_)
      clear hK K
      simp only [List.setIfInBounds_toArray, List.set_cons_zero, List.set_cons_succ]
      refine wpAnyH_ready (rs := [4, 7]) (by kernel_rfl) (by simp) ?_
      refine AllReadyH.cons (o := ⟨some 28, _, _, _, _, _⟩) rfl (fun K hK => ?_) ?_
      · go_simp
        refine (nu1 _).mono ?_
        rintro e v2 ⟨rfl, hb⟩
        have Yv2 := Lib.hid (Yv1.out.next hb)
        have Xv2 := Lib.hid (Xv1.out.next hb)
        have Bv2 := Lib.hid (_root_.Go.Proofs.Ytmiplljcnchjkaa.bt Bv1.out hb)
        clear hb hHeld
        go_wp2_with fail
        refine hK.out _ _ (nums_range Yv2.out) (fun hHeld => ?_)
        clear hK K
        simp only [List.setIfInBounds_toArray, List.set_cons_zero, List.set_cons_succ]
        refine wpAnyH_ready (rs := [5, 7]) (by kernel_rfl) (by simp) ?_
        refine AllReadyH.cons (o := ⟨some 29, _, _, _, _, _⟩) rfl (fun K hK => ?_) ?_
        · go_simp
          refine (p1 _).mono ?_
          rintro e v3 ⟨rfl, hb⟩
          have Yv3 := Lib.hid (Yv2.out.next hb)
          have Xv3 := Lib.hid (Xv2.out.next hb)
          have Bv3 := Lib.hid (_root_.Go.Proofs.Ytmiplljcnchjkaa.bt Bv2.out hb)
          clear hb hHeld
          go_wp2_with fail
          refine hK.out _ _ (nums_range Yv3.out) (fun hHeld => ?_)
          clear hK K
          simp only [List.setIfInBounds_toArray, List.set_cons_zero, List.set_cons_succ]
          refine wpAnyH_ready (rs := [6, 7]) (by kernel_rfl) (by simp) ?_
          refine AllReadyH.cons (o := ⟨some 30, _, _, _, _, _⟩) rfl (fun K hK => ?_) ?_
          · go_simp
            refine (p2 _).mono ?_
            rintro e v4 ⟨rfl, hb⟩
            have Yv4 := Lib.hid (Yv3.out.next hb)
            have Xv4 := Lib.hid (Xv3.out.next hb)
            have Bv4 := Lib.hid (_root_.Go.Proofs.Ytmiplljcnchjkaa.bt Bv3.out hb)
            clear hb hHeld
            go_wp2_with fail
            refine hK.out _ _ (nums_range Yv4.out) (fun hHeld => ?_)
            clear hK K
            simp only [List.setIfInBounds_toArray, List.set_cons_zero, List.set_cons_succ]
            refine wpAnyH_ready (rs := [7]) (by kernel_rfl) (by simp) ?_
            refine AllReadyH.cons (o := ⟨some 6, _, _, _, _, _⟩) rfl (fun K hK => ?_) AllReadyH.nil
            go_simp
            have Yv5 := Lib.hid (Yv4.out.alloc (.cells L0.toArray 32))
            have Xv5 := Lib.hid (Xv4.out.alloc (.cells L0.toArray 32))
            have Zv5 := Lib.hid (Blk.mk v4 32 L0)
            have Bv5 := Lib.hid (_root_.Go.Proofs.Ytmiplljcnchjkaa.bt Bv4.out (bl v4 (.cells L0.toArray 32)))
            have Hg : Hid (g4 ≠ v4.heap.size ∧ g5 ≠ v4.heap.size) := Lib.hid ⟨by have := Xv4.out.lt; omega, by have := Yv4.out.lt; omega⟩
            have Hgl : Hid (w.heap.size ≤ v4.heap.size) := Lib.hid Bv4.out.size
            clear hHeld
            generalize v4.alloc (.cells L0.toArray 32) = v5 at *
            generalize v4.heap.size = g6 at *
            refine hK.out _ _ (nums_range Yv5.out) (fun hHeld => ?_)
            clear hK K
            simp only [List.setIfInBounds_toArray, List.set_cons_zero, List.set_cons_succ]
            refine wpAnyH_done (by kernel_rfl) ?_ _
            change wpList _ _ _ _ _ _
            clear hHeld
            have TT : Hid (v5.there g6 0 (num false z).toArray.size) := Lib.hid (by rw [numA]; exact blk_there Zv5.out 0 130 (by rw [Hnl.out]; decide))
            have F := Zv5.out
            go_wp2_with (refine wpList_store_mid rfl 32 _ _ rfl g6 0 (num false z).toArray rfl rfl ?ht iG (all_oneCell_toArray oG) ?_; (case ht => exact TT.out))
            go_meet
            exact ⟨g6, rfl, blk_apart _ _ _ _ Xv5.out Hg.out.1, blk_apart _ _ _ _ Yv5.out Hg.out.2, full_mid Zv5.out _ (by rw [(Hnlx z).out, Hnl.out]), below_cells _ _ _ _ Bv5.out Hgl.out⟩
          refine AllReadyH.cons (o := ⟨some 6, _, _, _, _, _⟩) rfl (fun K hK => ?_) AllReadyH.nil
          go_simp
          have Yv6 := Lib.hid (Yv3.out.alloc (.cells L0.toArray 32))
          have Xv6 := Lib.hid (Xv3.out.alloc (.cells L0.toArray 32))
          have Zv6 := Lib.hid (Blk.mk v3 32 L0)
          have Bv6 := Lib.hid (_root_.Go.Proofs.Ytmiplljcnchjkaa.bt Bv3.out (bl v3 (.cells L0.toArray 32)))
          have Hg : Hid (g4 ≠ v3.heap.size ∧ g5 ≠ v3.heap.size) := Lib.hid ⟨by have := Xv3.out.lt; omega, by have := Yv3.out.lt; omega⟩
          have Hgl : Hid (w.heap.size ≤ v3.heap.size) := Lib.hid Bv3.out.size
          clear hHeld
          generalize v3.alloc (.cells L0.toArray 32) = v6 at *
          generalize v3.heap.size = g6 at *
          refine hK.out _ _ (nums_range Yv6.out) (fun hHeld => ?_)
          clear hK K
          simp only [List.setIfInBounds_toArray, List.set_cons_zero, List.set_cons_succ]
          refine wpAnyH_ready (rs := [6]) (by kernel_rfl) (by simp) ?_
          refine AllReadyH.cons (o := ⟨some 30, _, _, _, _, _⟩) rfl (fun K hK => ?_) AllReadyH.nil
          go_simp
          refine (p2 _).mono ?_
          rintro e v7 ⟨rfl, hb⟩
          have Yv7 := Lib.hid (Yv6.out.next hb)
          have Xv7 := Lib.hid (Xv6.out.next hb)
          have Bv7 := Lib.hid (_root_.Go.Proofs.Ytmiplljcnchjkaa.bt Bv6.out hb)
          have Zv7 := Lib.hid (Zv6.out.next hb)
          clear hb hHeld
          go_wp2_with fail
          refine hK.out _ _ (nums_range Yv7.out) (fun hHeld => ?_)
          clear hK K
          simp only [List.setIfInBounds_toArray, List.set_cons_zero, List.set_cons_succ]
          refine wpAnyH_done (by kernel_rfl) ?_ _
          change wpList _ _ _ _ _ _
          clear hHeld
          have TT : Hid (v7.there g6 0 (num false z).toArray.size) := Lib.hid (by rw [numA]; exact blk_there Zv7.out 0 130 (by rw [Hnl.out]; decide))
          have F := Zv7.out
          go_wp2_with (refine wpList_store_mid rfl 32 _ _ rfl g6 0 (num false z).toArray rfl rfl ?ht iG (all_oneCell_toArray oG) ?_; (case ht => exact TT.out))
          go_meet
          exact ⟨g6, rfl, blk_apart _ _ _ _ Xv7.out Hg.out.1, blk_apart _ _ _ _ Yv7.out Hg.out.2, full_mid Zv7.out _ (by rw [(Hnlx z).out, Hnl.out]), below_cells _ _ _ _ Bv7.out Hgl.out⟩
        refine AllReadyH.cons (o := ⟨some 6, _, _, _, _, _⟩) rfl (fun K hK => ?_) AllReadyH.nil
        go_simp
        have Yv8 := Lib.hid (Yv2.out.alloc (.cells L0.toArray 32))
        have Xv8 := Lib.hid (Xv2.out.alloc (.cells L0.toArray 32))
        have Zv8 := Lib.hid (Blk.mk v2 32 L0)
        have Bv8 := Lib.hid (_root_.Go.Proofs.Ytmiplljcnchjkaa.bt Bv2.out (bl v2 (.cells L0.toArray 32)))
        have Hg : Hid (g4 ≠ v2.heap.size ∧ g5 ≠ v2.heap.size) := Lib.hid ⟨by have := Xv2.out.lt; omega, by have := Yv2.out.lt; omega⟩
        have Hgl : Hid (w.heap.size ≤ v2.heap.size) := Lib.hid Bv2.out.size
        clear hHeld
        generalize v2.alloc (.cells L0.toArray 32) = v8 at *
        generalize v2.heap.size = g6 at *
        refine hK.out _ _ (nums_range Yv8.out) (fun hHeld => ?_)
        clear hK K
        simp only [List.setIfInBounds_toArray, List.set_cons_zero, List.set_cons_succ]
        refine wpAnyH_ready (rs := [5]) (by kernel_rfl) (by simp) ?_
        refine AllReadyH.cons (o := ⟨some 29, _, _, _, _, _⟩) rfl (fun K hK => ?_) AllReadyH.nil
        go_simp
        refine (p1 _).mono ?_
        rintro e v9 ⟨rfl, hb⟩
        have Yv9 := Lib.hid (Yv8.out.next hb)
        have Xv9 := Lib.hid (Xv8.out.next hb)
        have Bv9 := Lib.hid (_root_.Go.Proofs.Ytmiplljcnchjkaa.bt Bv8.out hb)
        have Zv9 := Lib.hid (Zv8.out.next hb)
        clear hb hHeld
        go_wp2_with fail
        refine hK.out _ _ (nums_range Yv9.out) (fun hHeld => ?_)
        clear hK K
        simp only [List.setIfInBounds_toArray, List.set_cons_zero, List.set_cons_succ]
        refine wpAnyH_ready (rs := [6]) (by kernel_rfl) (by simp) ?_
        refine AllReadyH.cons (o := ⟨some 30, _, _, _, _, _⟩) rfl (fun K hK => ?_) AllReadyH.nil
        go_simp
        refine (p2 _).mono ?_
        rintro e v10 ⟨rfl, hb⟩
        have Yv10 := Lib.hid (Yv9.out.next hb)
        have Xv10 := Lib.hid (Xv9.out.next hb)
        have Bv10 := Lib.hid (_root_.Go.Proofs.Ytmiplljcnchjkaa.bt Bv9.out hb)
        have Zv10 := Lib.hid (Zv9.out.next hb)
        clear hb hHeld
        go_wp2_with fail
        refine hK.out _ _ (nums_range Yv10.out) (fun hHeld => ?_)
        clear hK K
        simp only [List.setIfInBounds_toArray, List.set_cons_zero, List.set_cons_succ]
        refine wpAnyH_done (by kernel_rfl) ?_ _
        change wpList _ _ _ _ _ _
        clear hHeld
        have TT : Hid (v10.there g6 0 (num false z).toArray.size) := Lib.hid (by rw [numA]; exact blk_there Zv10.out 0 130 (by rw [Hnl.out]; decide))
        have F := Zv10.out
        go_wp2_with (refine wpList_store_mid rfl 32 _ _ rfl g6 0 (num false z).toArray rfl rfl ?ht iG (all_oneCell_toArray oG) ?_; (case ht => exact TT.out))
        go_meet
        exact ⟨g6, rfl, blk_apart _ _ _ _ Xv10.out Hg.out.1, blk_apart _ _ _ _ Yv10.out Hg.out.2, full_mid Zv10.out _ (by rw [(Hnlx z).out, Hnl.out]), below_cells _ _ _ _ Bv10.out Hgl.out⟩
      refine AllReadyH.cons (o := ⟨some 6, _, _, _, _, _⟩) rfl (fun K hK => ?_) AllReadyH.nil
      go_simp
      have Yv11 := Lib.hid (Yv1.out.alloc (.cells L0.toArray 32))
      have Xv11 := Lib.hid (Xv1.out.alloc (.cells L0.toArray 32))
      have Zv11 := Lib.hid (Blk.mk v1 32 L0)
      have Bv11 := Lib.hid (_root_.Go.Proofs.Ytmiplljcnchjkaa.bt Bv1.out (bl v1 (.cells L0.toArray 32)))
      have Hg : Hid (g4 ≠ v1.heap.size ∧ g5 ≠ v1.heap.size) := Lib.hid ⟨by have := Xv1.out.lt; omega, by have := Yv1.out.lt; omega⟩
      have Hgl : Hid (w.heap.size ≤ v1.heap.size) := Lib.hid Bv1.out.size
      clear hHeld
      generalize v1.alloc (.cells L0.toArray 32) = v11 at *
      generalize v1.heap.size = g6 at *
      refine hK.out _ _ (nums_range Yv11.out) (fun hHeld => ?_)
      clear hK K
      simp only [List.setIfInBounds_toArray, List.set_cons_zero, List.set_cons_succ]
      refine wpAnyH_ready (rs := [4]) (by kernel_rfl) (by simp) ?_
      refine AllReadyH.cons (o := ⟨some 28, _, _, _, _, _⟩) rfl (fun K hK => ?_) AllReadyH.nil
      go_simp
      refine (nu1 _).mono ?_
      rintro e v12 ⟨rfl, hb⟩
      have Yv12 := Lib.hid (Yv11.out.next hb)
      have Xv12 := Lib.hid (Xv11.out.next hb)
      have Bv12 := Lib.hid (_root_.Go.Proofs.Ytmiplljcnchjkaa.bt Bv11.out hb)
      have Zv12 := Lib.hid (Zv11.out.next hb)
      clear hb hHeld
      go_wp2_with fail
      refine hK.out _ _ (nums_range Yv12.out) (fun hHeld => ?_)
      clear hK K
      simp only [List.setIfInBounds_toArray, List.set_cons_zero, List.set_cons_succ]
      refine wpAnyH_ready (rs := [5]) (by kernel_rfl) (by simp) ?_
      refine AllReadyH.cons (o := ⟨some 29, _, _, _, _, _⟩) rfl (fun K hK => ?_) AllReadyH.nil
      go_simp
      refine (p1 _).mono ?_
      rintro e v13 ⟨rfl, hb⟩
      have Yv13 := Lib.hid (Yv12.out.next hb)
      have Xv13 := Lib.hid (Xv12.out.next hb)
      have Bv13 := Lib.hid (_root_.Go.Proofs.Ytmiplljcnchjkaa.bt Bv12.out hb)
      have Zv13 := Lib.hid (Zv12.out.next hb)
      clear hb hHeld
      go_wp2_with fail
      refine hK.out _ _ (nums_range Yv13.out) (fun hHeld => ?_)
      clear hK K
      simp only [List.setIfInBounds_toArray, List.set_cons_zero, List.set_cons_succ]
      refine wpAnyH_ready (rs := [6]) (by kernel_rfl) (by simp) ?_
      refine AllReadyH.cons (o := ⟨some 30, _, _, _, _, _⟩) rfl (fun K hK => ?_) AllReadyH.nil
      go_simp
      refine (p2 _).mono ?_
      rintro e v14 ⟨rfl, hb⟩
      have Yv14 := Lib.hid (Yv13.out.next hb)
      have Xv14 := Lib.hid (Xv13.out.next hb)
      have Bv14 := Lib.hid (_root_.Go.Proofs.Ytmiplljcnchjkaa.bt Bv13.out hb)
      have Zv14 := Lib.hid (Zv13.out.next hb)
      clear hb hHeld
      go_wp2_with fail
      refine hK.out _ _ (nums_range Yv14.out) (fun hHeld => ?_)
      clear hK K
      simp only [List.setIfInBounds_toArray, List.set_cons_zero, List.set_cons_succ]
      refine wpAnyH_done (by kernel_rfl) ?_ _
      change wpList _ _ _ _ _ _
      clear hHeld
      have TT : Hid (v14.there g6 0 (num false z).toArray.size) := Lib.hid (by rw [numA]; exact blk_there Zv14.out 0 130 (by rw [Hnl.out]; decide))
      have F := Zv14.out
      go_wp2_with (refine wpList_store_mid rfl 32 _ _ rfl g6 0 (num false z).toArray rfl rfl ?ht iG (all_oneCell_toArray oG) ?_; (case ht => exact TT.out))
      go_meet
      exact ⟨g6, rfl, blk_apart _ _ _ _ Xv14.out Hg.out.1, blk_apart _ _ _ _ Yv14.out Hg.out.2, full_mid Zv14.out _ (by rw [(Hnlx z).out, Hnl.out]), below_cells _ _ _ _ Bv14.out Hgl.out⟩
    refine AllReadyH.cons (o := ⟨some 6, _, _, _, _, _⟩) rfl (fun K hK => ?_) AllReadyH.nil
    go_simp
    have Yv15 := Lib.hid (Yd.out.alloc (.cells L0.toArray 32))
    have Xv15 := Lib.hid (Xd.out.alloc (.cells L0.toArray 32))
    have Zv15 := Lib.hid (Blk.mk d 32 L0)
    have Bv15 := Lib.hid (_root_.Go.Proofs.Ytmiplljcnchjkaa.bt Bd.out (bl d (.cells L0.toArray 32)))
    have Hg : Hid (g4 ≠ d.heap.size ∧ g5 ≠ d.heap.size) := Lib.hid ⟨by have := Xd.out.lt; omega, by have := Yd.out.lt; omega⟩
    have Hgl : Hid (w.heap.size ≤ d.heap.size) := Lib.hid Bd.out.size
    clear hHeld
    generalize d.alloc (.cells L0.toArray 32) = v15 at *
    generalize d.heap.size = g6 at *
    refine hK.out _ _ (nums_range Yv15.out) (fun hHeld => ?_)
    clear hK K
    simp only [List.setIfInBounds_toArray, List.set_cons_zero, List.set_cons_succ]
    refine wpAnyH_ready (rs := [2]) (by kernel_rfl) (by simp) ?_
    refine AllReadyH.cons (o := ⟨some 26, _, _, _, _, _⟩) rfl (fun K hK => ?_) AllReadyH.nil
    go_simp
    refine (nu1 _).mono ?_
    rintro e v16 ⟨rfl, hb⟩
    have Yv16 := Lib.hid (Yv15.out.next hb)
    have Xv16 := Lib.hid (Xv15.out.next hb)
    have Bv16 := Lib.hid (_root_.Go.Proofs.Ytmiplljcnchjkaa.bt Bv15.out hb)
    have Zv16 := Lib.hid (Zv15.out.next hb)
    clear hb hHeld
    go_wp2_with fail
    refine hK.out _ _ (nums_range Yv16.out) (fun hHeld => ?_)
    clear hK K
    simp only [List.setIfInBounds_toArray, List.set_cons_zero, List.set_cons_succ]
    refine wpAnyH_ready (rs := [4]) (by kernel_rfl) (by simp) ?_
    refine AllReadyH.cons (o := ⟨some 28, _, _, _, _, _⟩) rfl (fun K hK => ?_) AllReadyH.nil
    go_simp
    refine (nu1 _).mono ?_
    rintro e v17 ⟨rfl, hb⟩
    have Yv17 := Lib.hid (Yv16.out.next hb)
    have Xv17 := Lib.hid (Xv16.out.next hb)
    have Bv17 := Lib.hid (_root_.Go.Proofs.Ytmiplljcnchjkaa.bt Bv16.out hb)
    have Zv17 := Lib.hid (Zv16.out.next hb)
    clear hb hHeld
    go_wp2_with fail
    refine hK.out _ _ (nums_range Yv17.out) (fun hHeld => ?_)
    clear hK K
    simp only [List.setIfInBounds_toArray, List.set_cons_zero, List.set_cons_succ]
    refine wpAnyH_ready (rs := [5]) (by kernel_rfl) (by simp) ?_
    refine AllReadyH.cons (o := ⟨some 29, _, _, _, _, _⟩) rfl (fun K hK => ?_) AllReadyH.nil
    go_simp
    refine (p1 _).mono ?_
    rintro e v18 ⟨rfl, hb⟩
    have Yv18 := Lib.hid (Yv17.out.next hb)
    have Xv18 := Lib.hid (Xv17.out.next hb)
    have Bv18 := Lib.hid (_root_.Go.Proofs.Ytmiplljcnchjkaa.bt Bv17.out hb)
    have Zv18 := Lib.hid (Zv17.out.next hb)
    clear hb hHeld
    go_wp2_with fail
    refine hK.out _ _ (nums_range Yv18.out) (fun hHeld => ?_)
    clear hK K
    simp only [List.setIfInBounds_toArray, List.set_cons_zero, List.set_cons_succ]
    refine wpAnyH_ready (rs := [6]) (by kernel_rfl) (by simp) ?_
    refine AllReadyH.cons (o := ⟨some 30, _, _, _, _, _⟩) rfl (fun K hK => ?_) AllReadyH.nil
    go_simp
    refine (p2 _).mono ?_
    rintro e v19 ⟨rfl, hb⟩
    have Yv19 := Lib.hid (Yv18.out.next hb)
    have Xv19 := Lib.hid (Xv18.out.next hb)
    have Bv19 := Lib.hid (_root_.Go.Proofs.Ytmiplljcnchjkaa.bt Bv18.out hb)
    have Zv19 := Lib.hid (Zv18.out.next hb)
    clear hb hHeld
    go_wp2_with fail
    refine hK.out _ _ (nums_range Yv19.out) (fun hHeld => ?_)
    clear hK K
    simp only [List.setIfInBounds_toArray, List.set_cons_zero, List.set_cons_succ]
    refine wpAnyH_done (by kernel_rfl) ?_ _
    change wpList _ _ _ _ _ _
    clear hHeld
    have TT : Hid (v19.there g6 0 (num false z).toArray.size) := Lib.hid (by rw [numA]; exact blk_there Zv19.out 0 130 (by rw [Hnl.out]; decide))
    have F := Zv19.out
    go_wp2_with (refine wpList_store_mid rfl 32 _ _ rfl g6 0 (num false z).toArray rfl rfl ?ht iG (all_oneCell_toArray oG) ?_; (case ht => exact TT.out))
    go_meet
    exact ⟨g6, rfl, blk_apart _ _ _ _ Xv19.out Hg.out.1, blk_apart _ _ _ _ Yv19.out Hg.out.2, full_mid Zv19.out _ (by rw [(Hnlx z).out, Hnl.out]), below_cells _ _ _ _ Bv19.out Hgl.out⟩
  case rest =>
    obtain ⟨g6, rfl, k4, k5, k6, kb⟩ := hcut
    have K4 := Lib.hid k4
    have K5 := Lib.hid k5
    have K6 := Lib.hid k6
    have KB := Lib.hid kb
    clear k4 k5 k6 kb X8 B8 Y8
    go_wp2_with (first
      | (refine wpList_load_mid rfl 32 _ rfl g5 0 rfl (num false y) _ ?hr Try.underlying32 rfl (infoN3 _ _) ?_; (case hr => exact nums_range K5.out))
      | (refine wpList_load_mid rfl 32 _ rfl g4 0 rfl (num false N) _ ?hr Try.underlying32 rfl (infoN3 _ _) ?_; (case hr => exact nums_range K4.out)))
    refine (cm1 _).mono ?_
    rintro e w9 ⟨⟨c, hc, rfl⟩, hb9⟩
    have R4 := Lib.hid (K4.out.next hb9)
    have R6 := Lib.hid (K6.out.next hb9)
    have B9 := Lib.hid (_root_.Go.Proofs.Ytmiplljcnchjkaa.bt KB.out hb9)
    have hcd : decide (c ≤ 0) = true := decide_eq_true hc
    clear hb9 K4 K5 K6 KB
    go_wp2_with (first
      | (refine wpList_load_want (by rfl) 32 _ rfl g4 0 rfl (num false N) _ ?hr Try.underlying32 rfl (infoN3 _ _) ?_; (case hr => exact nums_range R4.out))
      | (refine wpList_load_want (by rfl) 32 _ rfl g6 0 rfl (num false z) _ ?hr Try.underlying32 rfl (infoN3 _ _) ?_; (case hr => exact nums_range R6.out)))
    refine (cm2 _).mono ?_
    rintro e w10 ⟨⟨c2, hc2, rfl⟩, hb10⟩
    have B10 := Lib.hid (_root_.Go.Proofs.Ytmiplljcnchjkaa.bt B9.out hb10)
    have hcd2 : decide (c2 ≤ 0) = true := decide_eq_true hc2
    clear hb10 R4 R6 B9
    go_wp2_with fail
    refine (Root.works_any _).mono ?_
    rintro e w11 ⟨rfl, hb11⟩
    have B11 := Lib.hid (_root_.Go.Proofs.Ytmiplljcnchjkaa.bt B10.out hb11)
    clear hb11 B10
    go_wp2_with fail
    go_ret
    exact ⟨rfl, B11.out⟩
set_option maxRecDepth 100000 in
set_option maxHeartbeats 1000000 in
theorem wide_neg (hi : Int) (lo : Nat) (hn : hi < 0) (w : World) :
    Calls Try.prog 4 #[.agg #[.int .i64 hi, .int .u64 (lo : Int)]] w fun e w' => e = .returned (.bool true) ∧ Below w.heap.size w w' := by
  have root1 := fun w => Root.rwide_neg hi lo hn w
  have KB := Lib.hid (bl w (.cells #[.int .i64 hi, .int .u64 (lo : Int)] 28))
  go_enter Try.func4, Try.ntmps4
  go_wp2_with fail
  refine (root1 _).mono ?_
  rintro e w2 ⟨rfl, hb2⟩
  have e0 := (hb2.cell (p := ⟨w.heap.size, 0, none⟩) (show w.heap.size < (w.alloc (.cells #[.int .i64 hi, .int .u64 (lo : Int)] 28)).heap.size by simp))
  have c0 : w2.cell? ⟨w.heap.size, 0, none⟩ = some (.int .i64 hi) := by rw [e0]; simp [go_sem]
  have B2 := Lib.hid (_root_.Go.Proofs.Ytmiplljcnchjkaa.bt KB.out hb2)
  clear KB hb2 e0
  go_wp2_with fail
  refine (Root.works_any _).mono ?_
  rintro e w11 ⟨rfl, hb11⟩
  have B11 := Lib.hid (_root_.Go.Proofs.Ytmiplljcnchjkaa.bt B2.out hb11)
  clear hb11 B2
  go_wp2_with fail
  go_ret
  exact ⟨rfl, B11.out⟩
theorem walkWide (v0 : Value) (W : World) (h0 : VSat W (.cat (.int .i64) (.cat (.int .u64) .unit)) true v0) :
    Calls Try.prog 4 #[v0] W fun e W' => e = .returned (.bool true) ∧ Below W.heap.size W W' := by
  obtain ⟨cs, rfl, xs, ys, rfl, ⟨a, rfl, ha⟩, xs2, ys2, rfl, ⟨b, rfl, hb⟩, rfl⟩ := h0
  have h1 := bounds_i64 ha
  have h2 := bounds_u64 hb
  obtain ⟨lo, rfl⟩ : ∃ m : Nat, b = (m : Int) := ⟨b.toNat, by omega⟩
  by_cases hn : a < 0
  · exact wide_neg a lo hn W
  · obtain ⟨hi, rfl⟩ : ∃ m : Nat, a = (m : Int) := ⟨a.toNat, by omega⟩
    exact wide_law (hi * 18446744073709551616 + lo) hi lo (by omega) (by omega) (by omega) W
end Num
end Go.Proofs.Ytmiplljcnchjkaa
