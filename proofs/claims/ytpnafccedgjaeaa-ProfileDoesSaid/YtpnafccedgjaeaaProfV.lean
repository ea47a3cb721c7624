/-
  The walk of works of package profile.
-/
import Derived.Test.YtpnafccedgjaeaaProfW3d
import Derived.Test.YtpnafccedgjaeaaProfW6
namespace Go.Proofs.Ytpnafccedgjaeaa
open Go.RowKit
namespace Prof

theorem add_val (g : Nat) (p p' : Pr) (z : Int) (b : Bool) (w : World) (h : PB w g p) (hk : ok p) (hp : add p z = p') (hb : (!near p) = b) :
    Calls Try.prog 29 #[.pointer (some ⟨g, 0, none⟩), .int .i64 z] w fun e w' => e = .returned (.bool b) ∧ PB w' g p' ∧ w.grownBy w' (some g) := by
  subst hp
  subst hb
  exact add_any g p z w h hk
theorem move_val (g : Nat) (p p' : Pr) (dx dy : Int) (b : Bool) (w : World) (h : PB w g p) (hk : ok p) (hp : move p dx dy = p') (hb : mayMove p.x p.y dx dy = b) :
    Calls Try.prog 27 #[.pointer (some ⟨g, 0, none⟩), .int .i64 dx, .int .i64 dy] w fun e w' => e = .returned (.bool b) ∧ PB w' g p' ∧ w.grownBy w' (some g) := by
  subst hp
  subst hb
  exact move_any g p dx dy w h hk
def v1 : Pr := add (new 100) 5
def v2 : Pr := add v1 6
def v3 : Pr := move v2 100 (-50)
def v4 : Pr := add v3 9
def v5 : Pr := move v4 1073741824 0
theorem v_near0 : (!near (new 100)) = true := by decide
theorem v_near1 : (!near v1) = false := by decide
theorem v_may2 : mayMove v2.x v2.y 100 (-50) = true := by decide
theorem v_near3 : (!near v3) = true := by decide
theorem v_may4 : mayMove v4.x v4.y 1073741824 0 = false := by decide
theorem v_all : all v5 = [⟨0, 0, 5⟩, ⟨100, -50, 9⟩] := by decide
theorem v_back : back v5 = [⟨-100, 50, 5⟩, ⟨0, 0, 9⟩] := by decide
theorem v_x : v5.x = 100 := by decide
theorem v_y : v5.y = -50 := by decide
theorem v_steep : steep (all v5) = 4 := by decide
theorem v_gap : v5.gap = 100 := by decide
theorem ok_v1 : ok v1 := ok_add (ok_new 100) 5 (by decide) (by decide)
theorem ok_v2 : ok v2 := ok_add ok_v1 6 (by decide) (by decide)
theorem ok_v3 : ok v3 := ok_move ok_v2 100 (-50)
theorem ok_v4 : ok v4 := ok_add ok_v3 9 (by decide) (by decide)
theorem ok_v5 : ok v5 := ok_move ok_v4 1073741824 0
theorem v_zB : ∀ s ∈ all v5, zB s := by
  rw [v_all]
  intro s hs
  simp only [List.mem_cons, List.not_mem_nil, or_false] at hs
  rcases hs with rfl | rfl <;> (unfold zB; decide)

theorem bgrow {B g : Nat} {a w w' : World} (h : Below B a w) (hg : w.grownBy w' (some g)) (hB : B ≤ w.heap.size) (hr : B ≤ g) : Below B a w' := h.grown hg hB (fun k hk => by injection hk with hk; omega)

set_option maxRecDepth 100000 in
set_option maxHeartbeats 4000000 in
theorem works_any (w : World) : Calls Try.prog 23 #[] w fun e w' => e = .returned (.bool true) ∧ Below w.heap.size w w' := by
  have hz : ∀ w, (zeroValue 42).run Try.prog w = .ok (.agg (newCells 0)) w := fun _ => by kernel_rfl
  have hns := newCells_size 0
  go_enter Try.func23, Try.ntmps23
  go_wp2_with fail
  refine (new_any 100 _).mono ?_
  rintro e w1 ⟨rfl, hb1⟩
  go_wp2_with (refine wpList_store_row rfl 42 _ _ rfl w1.heap.size (newCells _) rfl rfl 42 (newCells 0) (heap_alloc_new w1 _) (by rw [info42, newCells_size]) (by rw [newCells_size, newCells_size]) (newCells_one _) ?_)
  have hp : PB ((w1.alloc (.cells (newCells 0) 42)).setRow w1.heap.size (newCells (clamp 100))) w1.heap.size (new 100) := row_set (heap_alloc_new w1 _) (newCells_fits 100)
  have hbw : Below w.heap.size w ((w1.alloc (.cells (newCells 0) 42)).setRow w1.heap.size (newCells (clamp 100))) := (bt hb1 (bl w1 _)).trans ⟨rfl, rfl, rfl, by simp, fun k hk => setRow_other _ _ k _ (by have := hb1.size; omega)⟩
  have hgw := hb1.size
  have hlt := hp.lt
  generalize (w1.alloc (.cells (newCells 0) 42)).setRow w1.heap.size (newCells (clamp 100)) = w2 at hp hbw hlt ⊢
  generalize w1.heap.size = g at hp hgw hlt ⊢
  clear hb1 hz hns
  refine (add_val g (new 100) v1 5 true _ hp (ok_new 100) rfl v_near0).mono ?_
  rintro e w3 ⟨rfl, hp3, hg3⟩
  have hbw3 := bgrow hbw hg3 (by omega) hgw
  have hl3 := hp3.lt
  clear hp hbw hg3 hlt w1
  go_wp2_with fail
  refine (add_val g v1 v2 6 false _ hp3 ok_v1 rfl v_near1).mono ?_
  rintro e w4 ⟨rfl, hp4, hg4⟩
  have hbw4 := bgrow hbw3 hg4 (by omega) hgw
  have hl4 := hp4.lt
  clear hp3 hbw3 hg4 hl3
  go_wp2_with fail
  refine (move_val g v2 v3 100 (-50) true _ hp4 ok_v2 rfl v_may2).mono ?_
  rintro e w5 ⟨rfl, hp5, hg5⟩
  have hbw5 := bgrow hbw4 hg5 (by omega) hgw
  have hl5 := hp5.lt
  clear hp4 hbw4 hg5 hl4
  go_wp2_with fail
  refine (add_val g v3 v4 9 true _ hp5 ok_v3 rfl v_near3).mono ?_
  rintro e w6 ⟨rfl, hp6, hg6⟩
  have hbw6 := bgrow hbw5 hg6 (by omega) hgw
  have hl6 := hp6.lt
  clear hp5 hbw5 hg6 hl5
  go_wp2_with fail
  refine (move_val g v4 v5 1073741824 0 false _ hp6 ok_v4 rfl v_may4).mono ?_
  rintro e w7 ⟨rfl, hp7, hg7⟩
  have hbw7 := bgrow hbw6 hg7 (by omega) hgw
  have hl7 := hp7.lt
  clear hp6 hbw6 hg7 hl6
  go_wp2_with fail
  refine (all_any g v5 _ hp7 ok_v5).mono ?_
  rintro e w8 ⟨⟨va, rfl, hown8⟩, hb8⟩
  have hp8 := hp7.below hb8 hl7
  have hbw8 := bt hbw7 hb8
  have hl8 := hp8.lt
  rw [v_all] at hown8
  have Hown8 := Lib.hid hown8
  clear hp7 hbw7 hb8 hown8
  go_wp2_with fail
  refine (back_any g v5 _ hp8 ok_v5).mono ?_
  rintro e w9 ⟨⟨vb, rfl, hown9⟩, hb9⟩
  have hp9 := hp8.below hb9 hl8
  have hbw9 := bt hbw8 hb9
  have hl9 := hp9.lt
  rw [v_back] at hown9
  have hown8' := Hown8.out.below hb9 (Nat.le_refl _)
  obtain ⟨qa, ca, rfl, hqa, _⟩ := hown8'.1.form (by decide)
  obtain ⟨qb, cb, rfl, hqb, _⟩ := hown9.1.form (by decide)
  have Hown8' := Lib.hid hown8'
  have Hown9 := Lib.hid hown9
  clear hp8 hbw8 hb9 hown9 hown8' Hown8
  go_wp2_with fail
  refine (at_any g v5 _ hp9).mono ?_
  rintro e w10 ⟨rfl, j, rfl⟩
  rw [v_x, v_y]
  have hp10 := hp9.drewN j
  have hbw10 := below_drewN hbw9 j
  have hl10 := hp10.lt
  have Hw8 : Hid (OwnS (w9.drewN j) w7.heap.size (.slice (some ⟨qa, 0, none⟩) 2 ca) 2 [⟨0, 0, 5⟩, ⟨100, -50, 9⟩]) := Hown8'
  have Hw9 : Hid (OwnS (w9.drewN j) w8.heap.size (.slice (some ⟨qb, 0, none⟩) 2 cb) 2 [⟨-100, 50, 5⟩, ⟨0, 0, 9⟩]) := Hown9
  clear hp9 hbw9 Hown8' Hown9 hl9
  generalize w9.drewN j = w10 at *
  go_wp2_with fail
  refine (steep_any g v5 _ hp10 ok_v5 v_zB).mono ?_
  rintro e w11 ⟨rfl, hb11⟩
  rw [v_steep]
  have hp11 := hp10.below hb11 hl10
  have hbw11 := bt hbw10 hb11
  have hl11 := hp11.lt
  have Hx8 := Lib.hid (Hw8.out.below hb11 (Nat.le_refl _))
  have Hx9 := Lib.hid (Hw9.out.below hb11 (Nat.le_refl _))
  clear hp10 hbw10 Hw8 Hw9 hb11 hl10
  go_wp2_with fail
  refine (clear_any g v5 _ hp11).mono ?_
  rintro e w12 ⟨rfl, hp12, hg12⟩
  have hbw12 := bgrow hbw11 hg12 (by omega) hgw
  have hl12 := hp12.lt
  have k8 : w12.ownsRow w7.heap.size 39 3 (.slice (some ⟨qa, 0, none⟩) 2 ca) 2 (flat [⟨0, 0, 5⟩, ⟨100, -50, 9⟩]) := Hx8.out.1.kept hg12 (.inr (by intro e; injection e with e; dsimp only at e; omega))
  have k9 : w12.ownsRow w8.heap.size 39 3 (.slice (some ⟨qb, 0, none⟩) 2 cb) 2 (flat [⟨-100, 50, 5⟩, ⟨0, 0, 9⟩]) := Hx9.out.1.kept hg12 (.inr (by intro e; injection e with e; dsimp only at e; omega))
  have a3 : w12.cell? ⟨qa, 3, none⟩ = some (.int .i64 100) := k8.cellAt 3 (by decide)
  have a4 : w12.cell? ⟨qa, 4, none⟩ = some (.int .i64 (-50)) := k8.cellAt 4 (by decide)
  have a5 : w12.cell? ⟨qa, 5, none⟩ = some (.int .i64 9) := k8.cellAt 5 (by decide)
  have b0 : w12.cell? ⟨qb, 0, none⟩ = some (.int .i64 (-100)) := k9.cellAt 0 (by decide)
  have b1 : w12.cell? ⟨qb, 1, none⟩ = some (.int .i64 50) := k9.cellAt 1 (by decide)
  have b2 : w12.cell? ⟨qb, 2, none⟩ = some (.int .i64 5) := k9.cellAt 2 (by decide)
  have hlen : Calls Try.prog 32 #[.pointer (some ⟨g, 0, none⟩)] w12 fun e w' => e = .returned (.int .i64 0) ∧ w12 = w' := len_any g (new v5.gap) w12 hp12
  have Hlen := Lib.hid hlen
  clear hp11 hbw11 hl11 Hx8 Hx9 hg12 hl12 k8 k9 hlen hp12 hqa hqb hl7 hl8 hgw
  go_wp2_with (go_at_call 32; refine Hlen.out.mono ?_; rintro e w' ⟨rfl, rfl⟩)
  go_ret
  exact ⟨rfl, hbw12⟩
end Prof
end Go.Proofs.Ytpnafccedgjaeaa
