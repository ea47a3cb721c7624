/- A part of the proof of WholeFaults. -/
import Derived.Test.YtekjehbkmlodmaaGreatZK
import Derived.Test.YtekjehbkmlodmaaGreatZG
import Derived.BigRegion
import Derived.BigQuiet
import Derived.Test.YtekjehbkmlodmaaGreatZA
set_option linter.unusedVariables false
set_option linter.unusedSimpArgs false
namespace Go.Proofs.YtekjehbkmlodmaaGreat
section
open Go.RowKit
namespace Nav
open Til (quiet_eq)
structure NS (w : World) (g : Nat) (m : Int) (s : Nat) : Prop where
 ex : ∃ cs : List Value, Blk w g 121 cs ∧ cs.length = 308 ∧ cs[285]? = some (.int .i64 m) ∧ cs[302]? = some (.bool false) ∧ cs[303]? = some (.int .u16 (s : Int)) ∧ cs[304]? = some (.int .u32 0)
theorem NS.lt {w : World} {g : Nat} {m : Int} {s : Nat} (h : NS w g m s) : g < w.heap.size := by obtain ⟨cs, h, _⟩ := h.ex; exact h.lt
theorem NS.keep {w w' : World} {g : Nat} {m : Int} {s : Nat} (h : NS w g m s) (hk : w'.heap[g]? = w.heap[g]?) : NS w' g m s := by
 obtain ⟨cs, h, hr⟩ := h.ex
 exact ⟨cs, hk.trans h, hr⟩
theorem NS.next {w w' : World} {g : Nat} {m : Int} {s : Nat} (h : NS w g m s) (hb : Below w.heap.size w w') : NS w' g m s := h.keep (hb.block g h.lt)
theorem NS.far {w : World} {g : Nat} {m : Int} {s : Nat} (h : NS w g m s) {p : Addr} (hp : g ≠ p.block) (u : Value) : NS (w.setCell p u) g m s := h.keep (Below.heap_setCell w p u g hp)
theorem NS.cells {w : World} {g : Nat} {m : Int} {s : Nat} (h : NS w g m s) : w.cell? ⟨g, 285, none⟩ = some (.int .i64 m) ∧ w.cell? ⟨g, 302, none⟩ = some (.bool false) ∧ w.cell? ⟨g, 303, none⟩ = some (.int .u16 (s : Int)) ∧ w.cell? ⟨g, 304, none⟩ = some (.int .u32 0) ∧ w.frozen? ⟨g, 303, none⟩ = false := by
 obtain ⟨cs, h, _, h1, h2, h3, h4⟩ := h.ex
 exact ⟨(h.cell _).trans h1, (h.cell _).trans h2, (h.cell _).trans h3, (h.cell _).trans h4, h.free _⟩
theorem NS.put {w : World} {g : Nat} {m : Int} {s : Nat} (h : NS w g m s) (x : Nat) : NS (w.setCell ⟨g, 303, none⟩ (.int .u16 (x : Int))) g m x := by
 obtain ⟨cs, h, hl, h1, h2, h3, h4⟩ := h.ex
 exact ⟨_, h.put 303 _, by rw [List.length_set]; exact hl, by rw [List.getElem?_set_ne (by decide)]; exact h1, by rw [List.getElem?_set_ne (by decide)]; exact h2, by rw [List.getElem?_set_self (by omega)], by rw [List.getElem?_set_ne (by decide)]; exact h4⟩
theorem NS.drewN {w : World} {g : Nat} {m : Int} {s : Nat} (h : NS w g m s) (n : Nat) : NS (w.drewN n) g m s := h.keep rfl
theorem holds_any (m : Int) (h2 : m ≠ 2) (h3 : m ≠ 3) (w : World) : Calls Tryz.prog 69 #[.int .i64 m] w fun e w' => e = .returned (.bool false) ∧ w = w' := by
 have d2 : (m == 2) = false := beq_eq_false_iff_ne.2 h2
 have d3 : (m == 3) = false := beq_eq_false_iff_ne.2 h3
 clear h2 h3
 go_enter Tryz.func69, Tryz.ntmps69
 go_wp2_with fail
 go_ret
 exact ⟨rfl, rfl⟩
theorem valid_any (w : World) : Calls Tryz.prog 100 #[.int .i64 4, .int .i32 0] w fun e w' => e = .returned (.bool false) ∧ w = w' := by
 go_enter Tryz.func100, Tryz.ntmps100
 go_wp2_with fail
 go_ret
 exact ⟨rfl, rfl⟩
def modeF (s : Nat) : List Value := [.int .i64 7, .int .u16 (s : Int), .int .u32 0, .int .i32 4, .int .i32 0, .int .i32 0]
theorem tell1_any (s : Nat) (w : World) : Calls Tryz.prog 99 #[.int .i64 4, .int .i32 0, .int .u16 (s : Int), .int .u32 0] w fun e w' => e = .returned (.agg (modeF s).toArray) ∧ Below w.heap.size w w' := by
 have hb := Blk.mk w 59 [.int .i64 0, .int .u16 0, .int .u32 0, .int .i32 0, .int .i32 0, .int .i32 0]
 have HB := Lib.hid hb
 clear hb
 go_enter Tryz.func99, Tryz.ntmps99
 go_wp2_with (refine wpList_store_row rfl 59 _ _ rfl w.heap.size (modeF s).toArray rfl rfl _ _ HB.out (by kernel_rfl) rfl rfl ?_)
 refine bodyPost_ret (results_cell_row rfl _ _ w.heap.size 59 _ (0, 0) _ rfl (Blk.mk w _ (modeF s)) Tryz.underlying59 rfl (by kernel_rfl)) rfl ?_
 exact ⟨rfl, bl w _⟩
set_option maxRecDepth 100000 in
set_option maxHeartbeats 1000000 in
theorem flags0_any (w : World) : Calls Tryz.prog 118 #[.bool false, .bool false, .bool false, .bool false, .bool false] w fun e w' => e = .returned (.int .i32 0) ∧ w = w' := by
 have x0 : ∀ w, (Instr.index 267 (.agg #[.bool false, .bool false, .bool false, .bool false, .bool false]) (.int .i64 0)).run Tryz.prog w = .ok (.bool false) w := fun _ => by kernel_rfl
 have x1 : ∀ w, (Instr.index 267 (.agg #[.bool false, .bool false, .bool false, .bool false, .bool false]) (.int .i64 1)).run Tryz.prog w = .ok (.bool false) w := fun _ => by kernel_rfl
 have x2 : ∀ w, (Instr.index 267 (.agg #[.bool false, .bool false, .bool false, .bool false, .bool false]) (.int .i64 2)).run Tryz.prog w = .ok (.bool false) w := fun _ => by kernel_rfl
 have x3 : ∀ w, (Instr.index 267 (.agg #[.bool false, .bool false, .bool false, .bool false, .bool false]) (.int .i64 3)).run Tryz.prog w = .ok (.bool false) w := fun _ => by kernel_rfl
 have x4 : ∀ w, (Instr.index 267 (.agg #[.bool false, .bool false, .bool false, .bool false, .bool false]) (.int .i64 4)).run Tryz.prog w = .ok (.bool false) w := fun _ => by kernel_rfl
 go_enter Tryz.func118, Tryz.ntmps118
 go_wp2_with fail
 go_loopw [11, 20] (fun x u wr => ∃ i : Nat, i ≤ 5 ∧ x = .int .i32 0 ∧ u = .int .i64 (i : Int) ∧ wr = w) (fun _ u _ => 5 - (intOf u).toNat)
 case atStart => exact ⟨0, by decide, rfl, rfl, rfl⟩
 case round =>
  obtain ⟨i, hi, rfl, rfl, rfl⟩ := hrel
  have hc : i = 0 ∨ i = 1 ∨ i = 2 ∨ i = 3 ∨ i = 4 ∨ i = 5 := by omega
  rcases hc with rfl | rfl | rfl | rfl | rfl | rfl
  ·go_wp2_with fail
   exact ⟨⟨1, by decide, rfl, rfl, by trivial⟩, by simp [intOf]⟩
  ·go_wp2_with fail
   exact ⟨⟨2, by decide, rfl, rfl, by trivial⟩, by simp [intOf]⟩
  ·go_wp2_with fail
   exact ⟨⟨3, by decide, rfl, rfl, by trivial⟩, by simp [intOf]⟩
  ·go_wp2_with fail
   exact ⟨⟨4, by decide, rfl, rfl, by trivial⟩, by simp [intOf]⟩
  ·go_wp2_with fail
   exact ⟨⟨5, by decide, rfl, rfl, by trivial⟩, by simp [intOf]⟩
  ·go_wp2_with fail
   go_ret
   exact ⟨rfl, rfl⟩
set_option maxRecDepth 100000 in
set_option maxHeartbeats 1000000 in
theorem flags_any (g s : Nat) (w : World) (h : NS w g 4 s) : Calls Tryz.prog 98 #[.pointer (some ⟨g, 0, none⟩)] w fun e w' => e = .returned (.int .i32 0) ∧ Below w.heap.size w w' := by
 obtain ⟨c0, c1, c2, c3, c4⟩ := h.cells
 have hh := fun w => holds_any 4 (by decide) (by decide) w
 clear h
 go_enter Tryz.func98, Tryz.ntmps98
 go_wp2_with fail
 refine (hh _).mono ?_
 rintro e w' ⟨rfl, rfl⟩
 go_wp2_with fail
 refine wp_region_held_drew (S := fun w' => w'.cell? ⟨g, 302, none⟩ = some (.bool false)) (by kernel_rfl) c1 (fun hHeld => ?_)
 refine wpAnyH_take (i := 0) (oi := ⟨some 9, _, _, _, _, _⟩) (v := ?_) rfl (by kernel_rfl) (by kernel_rfl) (by kernel_rfl) (fun _ _ _ h => h) (Or.inl ⟨by rfl, ?_⟩) (by assumption) ?_
 rotate_left
 ·(intro w hSw; (try dsimp only at hSw); go_simp; try (with_reducible rfl))
 try simp only [Act.put, List.setIfInBounds_toArray, List.set_cons_zero, List.set_cons_succ]
 refine wpAnyH_take (i := 1) (oi := ⟨some 10, _, _, _, _, _⟩) (v := ?_) rfl (by kernel_rfl) (by kernel_rfl) (by kernel_rfl) (fun _ _ _ h => h) (Or.inl ⟨by rfl, ?_⟩) (by assumption) ?_
 rotate_left
 ·(intro w hSw; (try dsimp only at hSw); go_simp; try (with_reducible rfl))
 try simp only [Act.put, List.setIfInBounds_toArray, List.set_cons_zero, List.set_cons_succ]
 refine wpAnyH_take (i := 2) (oi := ⟨some 11, _, _, _, _, _⟩) (v := undef) rfl (by kernel_rfl) (by kernel_rfl) (by kernel_rfl) (fun _ _ _ h => h) (Or.inr ⟨by rfl, rfl⟩) (by assumption) ?_
 try simp only [Act.put, List.setIfInBounds_toArray, List.set_cons_zero, List.set_cons_succ]
 refine wpAnyH_take (i := 3) (oi := ⟨some 12, _, _, _, _, _⟩) (v := undef) rfl (by kernel_rfl) (by kernel_rfl) (by kernel_rfl) (fun _ _ _ h => h) (Or.inr ⟨by rfl, rfl⟩) (by assumption) ?_
 try simp only [Act.put, List.setIfInBounds_toArray, List.set_cons_zero, List.set_cons_succ]
 refine wpAnyH_take (i := 4) (oi := ⟨some 13, _, _, _, _, _⟩) (v := undef) rfl (by kernel_rfl) (by kernel_rfl) (by kernel_rfl) (fun _ _ _ h => h) (Or.inr ⟨by rfl, rfl⟩) (by assumption) ?_
 try simp only [Act.put, List.setIfInBounds_toArray, List.set_cons_zero, List.set_cons_succ]
 refine wpAnyH_take (i := 5) (oi := ⟨some 14, _, _, _, _, _⟩) (v := undef) rfl (by kernel_rfl) (by kernel_rfl) (by kernel_rfl) (fun _ _ _ h => h) (Or.inr ⟨by rfl, rfl⟩) (by assumption) ?_
 try simp only [Act.put, List.setIfInBounds_toArray, List.set_cons_zero, List.set_cons_succ]
 refine wpAnyH_take (i := 6) (oi := ⟨some 15, _, _, _, _, _⟩) (v := undef) rfl (by kernel_rfl) (by kernel_rfl) (by kernel_rfl) (fun _ _ _ h => h) (Or.inr ⟨by rfl, rfl⟩) (by assumption) ?_
 try simp only [Act.put, List.setIfInBounds_toArray, List.set_cons_zero, List.set_cons_succ]
 refine wpAnyH_take (i := 7) (oi := ⟨some 16, _, _, _, _, _⟩) (v := undef) rfl (by kernel_rfl) (by kernel_rfl) (by kernel_rfl) (fun _ _ _ h => h) (Or.inr ⟨by rfl, rfl⟩) (by assumption) ?_
 try simp only [Act.put, List.setIfInBounds_toArray, List.set_cons_zero, List.set_cons_succ]
 refine wpAnyH_take (i := 8) (oi := ⟨some 17, _, _, _, _, _⟩) (v := undef) rfl (by kernel_rfl) (by kernel_rfl) (by kernel_rfl) (fun _ _ _ h => h) (Or.inr ⟨by rfl, rfl⟩) (by assumption) ?_
 try simp only [Act.put, List.setIfInBounds_toArray, List.set_cons_zero, List.set_cons_succ]
 refine wpAnyH_take (i := 9) (oi := ⟨some 18, _, _, _, _, _⟩) (v := undef) rfl (by kernel_rfl) (by kernel_rfl) (by kernel_rfl) (fun _ _ _ h => h) (Or.inr ⟨by rfl, rfl⟩) (by assumption) ?_
 try simp only [Act.put, List.setIfInBounds_toArray, List.set_cons_zero, List.set_cons_succ]
 refine wpAnyH_take (i := 10) (oi := ⟨some 19, _, _, _, _, _⟩) (v := undef) rfl (by kernel_rfl) (by kernel_rfl) (by kernel_rfl) (fun _ _ _ h => h) (Or.inr ⟨by rfl, rfl⟩) (by assumption) ?_
 try simp only [Act.put, List.setIfInBounds_toArray, List.set_cons_zero, List.set_cons_succ]
 refine wpAnyH_take (i := 11) (oi := ⟨some 20, _, _, _, _, _⟩) (v := undef) rfl (by kernel_rfl) (by kernel_rfl) (by kernel_rfl) (fun _ _ _ h => h) (Or.inr ⟨by rfl, rfl⟩) (by assumption) ?_
 try simp only [Act.put, List.setIfInBounds_toArray, List.set_cons_zero, List.set_cons_succ]
 refine wpAnyH_take (i := 12) (oi := ⟨some 21, _, _, _, _, _⟩) (v := ?_) rfl (by kernel_rfl) (by kernel_rfl) (by kernel_rfl) (fun _ _ _ h => h) (Or.inl ⟨by rfl, ?_⟩) (by assumption) ?_
 rotate_left
 ·(intro w hSw; (try dsimp only at hSw); go_simp; try (with_reducible rfl))
 try simp only [Act.put, List.setIfInBounds_toArray, List.set_cons_zero, List.set_cons_succ]
 refine wpAnyH_take (i := 13) (oi := ⟨some 22, _, _, _, _, _⟩) (v := ?_) rfl (by kernel_rfl) (by kernel_rfl) (by kernel_rfl) (fun _ _ _ h => h) (Or.inl ⟨by rfl, ?_⟩) (by assumption) ?_
 rotate_left
 ·(intro w hSw; (try dsimp only at hSw); go_simp; try (with_reducible rfl))
 try simp only [Act.put, List.setIfInBounds_toArray, List.set_cons_zero, List.set_cons_succ]
 refine wpAnyH_take (i := 14) (oi := ⟨some 23, _, _, _, _, _⟩) (v := ?_) rfl (by kernel_rfl) (by kernel_rfl) (by kernel_rfl) (fun _ _ _ h => h) (Or.inl ⟨by rfl, ?_⟩) (by assumption) ?_
 rotate_left
 ·(intro w hSw; (try dsimp only at hSw); go_simp; try (with_reducible rfl))
 try simp only [Act.put, List.setIfInBounds_toArray, List.set_cons_zero, List.set_cons_succ]
 refine wpAnyH_take (i := 15) (oi := ⟨some 24, _, _, _, _, _⟩) (v := undef) rfl (by kernel_rfl) (by kernel_rfl) (by kernel_rfl) (fun _ _ _ h => h) (Or.inr ⟨by rfl, rfl⟩) (by assumption) ?_
 try simp only [Act.put, List.setIfInBounds_toArray, List.set_cons_zero, List.set_cons_succ]
 refine wpAnyH_take (i := 16) (oi := ⟨some 25, _, _, _, _, _⟩) (v := undef) rfl (by kernel_rfl) (by kernel_rfl) (by kernel_rfl) (fun _ _ _ h => h) (Or.inr ⟨by rfl, rfl⟩) (by assumption) ?_
 try simp only [Act.put, List.setIfInBounds_toArray, List.set_cons_zero, List.set_cons_succ]
 refine wpAnyH_take (i := 17) (oi := ⟨some 26, _, _, _, _, _⟩) (v := undef) rfl (by kernel_rfl) (by kernel_rfl) (by kernel_rfl) (fun _ _ _ h => h) (Or.inr ⟨by rfl, rfl⟩) (by assumption) ?_
 try simp only [Act.put, List.setIfInBounds_toArray, List.set_cons_zero, List.set_cons_succ]
 refine wpAnyH_take (i := 18) (oi := ⟨some 27, _, _, _, _, _⟩) (v := undef) rfl (by kernel_rfl) (by kernel_rfl) (by kernel_rfl) (fun _ _ _ h => h) (Or.inr ⟨by rfl, rfl⟩) (by assumption) ?_
 try simp only [Act.put, List.setIfInBounds_toArray, List.set_cons_zero, List.set_cons_succ]
 refine wpAnyH_take (i := 19) (oi := ⟨some 28, _, _, _, _, _⟩) (v := undef) rfl (by kernel_rfl) (by kernel_rfl) (by kernel_rfl) (fun _ _ _ h => h) (Or.inr ⟨by rfl, rfl⟩) (by assumption) ?_
 try simp only [Act.put, List.setIfInBounds_toArray, List.set_cons_zero, List.set_cons_succ]
 refine wpAnyH_take (i := 20) (oi := ⟨some 29, _, _, _, _, _⟩) (v := ?_) rfl (by kernel_rfl) (by kernel_rfl) (by kernel_rfl) (fun _ _ _ h => h) (Or.inl ⟨by rfl, ?_⟩) (by assumption) ?_
 rotate_left
 ·(intro w hSw; (try dsimp only at hSw); go_simp; try (with_reducible rfl))
 try simp only [Act.put, List.setIfInBounds_toArray, List.set_cons_zero, List.set_cons_succ]
 refine wpAnyH_take (i := 21) (oi := ⟨some 30, _, _, _, _, _⟩) (v := ?_) rfl (by kernel_rfl) (by kernel_rfl) (by kernel_rfl) (fun _ _ _ h => h) (Or.inl ⟨by rfl, ?_⟩) (by assumption) ?_
 rotate_left
 ·(intro w hSw; (try dsimp only at hSw); go_simp; try (with_reducible rfl))
 try simp only [Act.put, List.setIfInBounds_toArray, List.set_cons_zero, List.set_cons_succ]
 refine wpAnyH_take (i := 22) (oi := ⟨some 31, _, _, _, _, _⟩) (v := ?_) rfl (by kernel_rfl) (by kernel_rfl) (by kernel_rfl) (fun _ _ _ h => h) (Or.inl ⟨by rfl, ?_⟩) (by assumption) ?_
 rotate_left
 ·(intro w hSw; (try dsimp only at hSw); go_simp; try (with_reducible rfl))
 try simp only [Act.put, List.setIfInBounds_toArray, List.set_cons_zero, List.set_cons_succ]
 refine wpAnyH_take (i := 23) (oi := ⟨some 32, _, _, _, _, _⟩) (v := undef) rfl (by kernel_rfl) (by kernel_rfl) (by kernel_rfl) (fun _ _ _ h => h) (Or.inr ⟨by rfl, rfl⟩) (by assumption) ?_
 try simp only [Act.put, List.setIfInBounds_toArray, List.set_cons_zero, List.set_cons_succ]
 refine wpAnyH_take (i := 24) (oi := ⟨some 33, _, _, _, _, _⟩) (v := undef) rfl (by kernel_rfl) (by kernel_rfl) (by kernel_rfl) (fun _ _ _ h => h) (Or.inr ⟨by rfl, rfl⟩) (by assumption) ?_
 try simp only [Act.put, List.setIfInBounds_toArray, List.set_cons_zero, List.set_cons_succ]
 refine wpAnyH_take (i := 25) (oi := ⟨some 34, _, _, _, _, _⟩) (v := undef) rfl (by kernel_rfl) (by kernel_rfl) (by kernel_rfl) (fun _ _ _ h => h) (Or.inr ⟨by rfl, rfl⟩) (by assumption) ?_
 try simp only [Act.put, List.setIfInBounds_toArray, List.set_cons_zero, List.set_cons_succ]
 refine wpAnyH_take (i := 26) (oi := ⟨some 35, _, _, _, _, _⟩) (v := undef) rfl (by kernel_rfl) (by kernel_rfl) (by kernel_rfl) (fun _ _ _ h => h) (Or.inr ⟨by rfl, rfl⟩) (by assumption) ?_
 try simp only [Act.put, List.setIfInBounds_toArray, List.set_cons_zero, List.set_cons_succ]
 refine wpAnyH_take (i := 27) (oi := ⟨some 36, _, _, _, _, _⟩) (v := undef) rfl (by kernel_rfl) (by kernel_rfl) (by kernel_rfl) (fun _ _ _ h => h) (Or.inr ⟨by rfl, rfl⟩) (by assumption) ?_
 try simp only [Act.put, List.setIfInBounds_toArray, List.set_cons_zero, List.set_cons_succ]
 refine wpAnyH_take (i := 28) (oi := ⟨some 37, _, _, _, _, _⟩) (v := undef) rfl (by kernel_rfl) (by kernel_rfl) (by kernel_rfl) (fun _ _ _ h => h) (Or.inr ⟨by rfl, rfl⟩) (by assumption) ?_
 try simp only [Act.put, List.setIfInBounds_toArray, List.set_cons_zero, List.set_cons_succ]
 refine wpAnyH_take (i := 29) (oi := ⟨some 38, _, _, _, _, _⟩) (v := undef) rfl (by kernel_rfl) (by kernel_rfl) (by kernel_rfl) (fun _ _ _ h => h) (Or.inr ⟨by rfl, rfl⟩) (by assumption) ?_
 try simp only [Act.put, List.setIfInBounds_toArray, List.set_cons_zero, List.set_cons_succ]
 refine wpAnyH_take (i := 30) (oi := ⟨some 39, _, _, _, _, _⟩) (v := undef) rfl (by kernel_rfl) (by kernel_rfl) (by kernel_rfl) (fun _ _ _ h => h) (Or.inr ⟨by rfl, rfl⟩) (by assumption) ?_
 try simp only [Act.put, List.setIfInBounds_toArray, List.set_cons_zero, List.set_cons_succ]
 refine wpAnyH_take (i := 31) (oi := ⟨some 40, _, _, _, _, _⟩) (v := undef) rfl (by kernel_rfl) (by kernel_rfl) (by kernel_rfl) (fun _ _ _ h => h) (Or.inr ⟨by rfl, rfl⟩) (by assumption) ?_
 try simp only [Act.put, List.setIfInBounds_toArray, List.set_cons_zero, List.set_cons_succ]
 refine wpAnyH_take (i := 32) (oi := ⟨some 41, _, _, _, _, _⟩) (v := undef) rfl (by kernel_rfl) (by kernel_rfl) (by kernel_rfl) (fun _ _ _ h => h) (Or.inr ⟨by rfl, rfl⟩) (by assumption) ?_
 try simp only [Act.put, List.setIfInBounds_toArray, List.set_cons_zero, List.set_cons_succ]
 refine wpAnyH_take (i := 33) (oi := ⟨some 42, _, _, _, _, _⟩) (v := undef) rfl (by kernel_rfl) (by kernel_rfl) (by kernel_rfl) (fun _ _ _ h => h) (Or.inr ⟨by rfl, rfl⟩) (by assumption) ?_
 try simp only [Act.put, List.setIfInBounds_toArray, List.set_cons_zero, List.set_cons_succ]
 refine wpAnyH_take (i := 34) (oi := ⟨some 43, _, _, _, _, _⟩) (v := ?_) rfl (by kernel_rfl) (by kernel_rfl) (by kernel_rfl) (fun _ _ _ h => h) (Or.inl ⟨by rfl, ?_⟩) (by assumption) ?_
 rotate_left
 ·(intro w hSw; (try dsimp only at hSw); go_simp; try (with_reducible rfl))
 try simp only [Act.put, List.setIfInBounds_toArray, List.set_cons_zero, List.set_cons_succ]
 refine wpAnyH_take (i := 35) (oi := ⟨some 44, _, _, _, _, _⟩) (v := ?_) rfl (by kernel_rfl) (by kernel_rfl) (by kernel_rfl) (fun _ _ _ h => h) (Or.inl ⟨by rfl, ?_⟩) (by assumption) ?_
 rotate_left
 ·(intro w hSw; (try dsimp only at hSw); go_simp; try (with_reducible rfl))
 try simp only [Act.put, List.setIfInBounds_toArray, List.set_cons_zero, List.set_cons_succ]
 refine wpAnyH_take (i := 36) (oi := ⟨some 45, _, _, _, _, _⟩) (v := ?_) rfl (by kernel_rfl) (by kernel_rfl) (by kernel_rfl) (fun _ _ _ h => h) (Or.inl ⟨by rfl, ?_⟩) (by assumption) ?_
 rotate_left
 ·(intro w hSw; (try dsimp only at hSw); go_simp; try (with_reducible rfl))
 try simp only [Act.put, List.setIfInBounds_toArray, List.set_cons_zero, List.set_cons_succ]
 refine wpAnyH_take (i := 37) (oi := ⟨some 46, _, _, _, _, _⟩) (v := undef) rfl (by kernel_rfl) (by kernel_rfl) (by kernel_rfl) (fun _ _ _ h => h) (Or.inr ⟨by rfl, rfl⟩) (by assumption) ?_
 try simp only [Act.put, List.setIfInBounds_toArray, List.set_cons_zero, List.set_cons_succ]
 refine wpAnyH_take (i := 38) (oi := ⟨some 47, _, _, _, _, _⟩) (v := undef) rfl (by kernel_rfl) (by kernel_rfl) (by kernel_rfl) (fun _ _ _ h => h) (Or.inr ⟨by rfl, rfl⟩) (by assumption) ?_
 try simp only [Act.put, List.setIfInBounds_toArray, List.set_cons_zero, List.set_cons_succ]
 refine wpAnyH_take (i := 39) (oi := ⟨some 48, _, _, _, _, _⟩) (v := undef) rfl (by kernel_rfl) (by kernel_rfl) (by kernel_rfl) (fun _ _ _ h => h) (Or.inr ⟨by rfl, rfl⟩) (by assumption) ?_
 try simp only [Act.put, List.setIfInBounds_toArray, List.set_cons_zero, List.set_cons_succ]
 refine wpAnyH_take (i := 40) (oi := ⟨some 49, _, _, _, _, _⟩) (v := undef) rfl (by kernel_rfl) (by kernel_rfl) (by kernel_rfl) (fun _ _ _ h => h) (Or.inr ⟨by rfl, rfl⟩) (by assumption) ?_
 try simp only [Act.put, List.setIfInBounds_toArray, List.set_cons_zero, List.set_cons_succ]
 refine wpAnyH_take (i := 41) (oi := ⟨some 50, _, _, _, _, _⟩) (v := ?_) rfl (by kernel_rfl) (by kernel_rfl) (by kernel_rfl) (fun _ _ _ h => h) (Or.inl ⟨by rfl, ?_⟩) (by assumption) ?_
 rotate_left
 ·(intro w hSw; (try dsimp only at hSw); go_simp; try (with_reducible rfl))
 try simp only [Act.put, List.setIfInBounds_toArray, List.set_cons_zero, List.set_cons_succ]
 refine wpAnyH_take (i := 42) (oi := ⟨some 51, _, _, _, _, _⟩) (v := ?_) rfl (by kernel_rfl) (by kernel_rfl) (by kernel_rfl) (fun _ _ _ h => h) (Or.inl ⟨by rfl, ?_⟩) (by assumption) ?_
 rotate_left
 ·(intro w hSw; (try dsimp only at hSw); go_simp; try (with_reducible rfl))
 try simp only [Act.put, List.setIfInBounds_toArray, List.set_cons_zero, List.set_cons_succ]
 refine wpAnyH_take (i := 43) (oi := ⟨some 52, _, _, _, _, _⟩) (v := ?_) rfl (by kernel_rfl) (by kernel_rfl) (by kernel_rfl) (fun _ _ _ h => h) (Or.inl ⟨by rfl, ?_⟩) (by assumption) ?_
 rotate_left
 ·(intro w hSw; (try dsimp only at hSw); go_simp; try (with_reducible rfl))
 try simp only [Act.put, List.setIfInBounds_toArray, List.set_cons_zero, List.set_cons_succ]
 refine wpAnyH_take (i := 44) (oi := ⟨some 53, _, _, _, _, _⟩) (v := ?_) rfl (by kernel_rfl) (by kernel_rfl) (by kernel_rfl) (fun _ _ _ h => h) (Or.inl ⟨by rfl, ?_⟩) (by assumption) ?_
 rotate_left
 ·(intro w hSw; (try dsimp only at hSw); go_simp; try (with_reducible rfl))
 try simp only [Act.put, List.setIfInBounds_toArray, List.set_cons_zero, List.set_cons_succ]
 refine wpAnyH_take (i := 45) (oi := ⟨some 54, _, _, _, _, _⟩) (v := ?_) rfl (by kernel_rfl) (by kernel_rfl) (by kernel_rfl) (fun _ _ _ h => h) (Or.inl ⟨by rfl, ?_⟩) (by assumption) ?_
 rotate_left
 ·(intro w hSw; (try dsimp only at hSw); go_simp; try (with_reducible rfl))
 try simp only [Act.put, List.setIfInBounds_toArray, List.set_cons_zero, List.set_cons_succ]
 refine wpAnyH_ready (rs := [46]) (by kernel_rfl) (by simp) ?_
 refine AllReadyH.cons (o := ⟨some 55, _, _, _, _, _⟩) rfl (fun K hK => ?_) AllReadyH.nil
 go_simp
 refine (flags0_any _).mono ?_
 rintro e w' ⟨rfl, rfl⟩
 go_wp2_with fail
 refine hK.out _ _ c1 (fun hHeld => ?_)
 clear hK K
 try simp only [Act.put, List.setIfInBounds_toArray, List.set_cons_zero, List.set_cons_succ]
 refine wpAnyH_take (i := 47) (oi := ⟨some 2, _, _, _, _, _⟩) (v := ?_) rfl (by kernel_rfl) (by kernel_rfl) (by kernel_rfl) (fun _ _ _ h => h) (Or.inl ⟨by rfl, ?_⟩) (by assumption) ?_
 rotate_left
 ·(intro w hSw; (try dsimp only at hSw); go_simp; try (with_reducible rfl))
 try simp only [Act.put, List.setIfInBounds_toArray, List.set_cons_zero, List.set_cons_succ]
 refine wpAnyH_done (by kernel_rfl) ?_ _
 go_wp2_with fail
 go_ret
 exact ⟨rfl, below_drewN (Below.refl _ _) _⟩
end Nav
end
section
open Go.RowKit
namespace Nav
open Cht (getC)
open Txt (bv bv_one)
open Cac (canew_any GotCa)
theorem NS.some {w : World} {g : Nat} {m : Int} {s : Nat} (h : NS w g m s) {i : Nat} (hi : i < 308) : (∃ u, w.cell? ⟨g, i, none⟩ = some u) ∧ w.frozen? ⟨g, i, none⟩ = false := by
 obtain ⟨cs, h, hl, _⟩ := h.ex
 exact ⟨⟨cs[i], by rw [h.cell, List.getElem?_eq_getElem]⟩, h.free i⟩
theorem NS.low {w : World} {g : Nat} {m : Int} {s : Nat} (h : NS w g m s) {i : Nat} (hi : i < 285) (u : Value) : NS (w.setCell ⟨g, i, none⟩ u) g m s := by
 obtain ⟨cs, h, hl, h1, h2, h3, h4⟩ := h.ex
 exact ⟨_, h.put i u, by rw [List.length_set]; exact hl, by rw [List.getElem?_set_ne (by omega)]; exact h1, by rw [List.getElem?_set_ne (by omega)]; exact h2, by rw [List.getElem?_set_ne (by omega)]; exact h3, by rw [List.getElem?_set_ne (by omega)]; exact h4⟩
theorem NS.lows {g : Nat} {m : Int} {s : Nat} : ∀ (vs : List Value) (o : Nat) (w : World), NS w g m s → o + vs.length ≤ 285 → NS (w.setCells g o vs) g m s
 | [], _, _, h, _ => h
 | v :: r, o, w, h, hl => by
  rw [List.length_cons] at hl
  exact NS.lows r (o + 1) _ (h.low (by omega) v) (by omega)
theorem NS.mode {w : World} {g : Nat} {m : Int} {s : Nat} (h : NS w g m s) (x : Int) : NS (w.setCell ⟨g, 285, none⟩ (.int .i64 x)) g x s := by
 obtain ⟨cs, h, hl, h1, h2, h3, h4⟩ := h.ex
 exact ⟨_, h.put 285 _, by rw [List.length_set]; exact hl, by rw [List.getElem?_set_self (by omega)], by rw [List.getElem?_set_ne (by decide)]; exact h2, by rw [List.getElem?_set_ne (by decide)]; exact h3, by rw [List.getElem?_set_ne (by decide)]; exact h4⟩
theorem below_cells {B g : Nat} : ∀ (vs : List Value) (o : Nat) {a w : World}, Below B a w → B ≤ g → Below B a (w.setCells g o vs)
 | [], _, _, _, h, _ => h
 | v :: r, o, a, w, h, hg => below_cells r (o + 1) (h.setCell (by show B ≤ g; exact hg) v) hg
theorem blk_cells {g k : Nat} {t : TypeId} {l : List Value} (hk : k ≠ g) : ∀ (vs : List Value) (o : Nat) (w : World), Blk w k t l → Blk (w.setCells g o vs) k t l
 | [], _, _, h => h
 | v :: r, o, w, h => blk_cells hk r (o + 1) _ (h.far (p := ⟨g, o, none⟩) hk v)
theorem rd_cells {g lo hi : Nat} {A : Option Addr} {l : List Value} (hg : hi ≤ g) : ∀ (vs : List Value) (o : Nat) (w : World), RdL w lo hi A l → RdL (w.setCells g o vs) lo hi A l
 | [], _, _, h => h
 | v :: r, o, w, h => rd_cells hg r (o + 1) _ (h.far (p := ⟨g, o, none⟩) (.inr hg) v)
noncomputable def zN : List Value := (((Tryz.prog.info? 121).bind (·.zero)).elim #[] Value.cells).toList
noncomputable def navV (r0 r1 r2 r3 m0 m1 m2 m3 m4 m5 n0 n1 n2 far stp gap need meas away num den tms spr x y c : Int) : List Value := [.int .u32 r0, .int .i64 r1, .int .i64 r2, .int .i64 r3, .int .i64 m0, .int .i64 m1, .int .i64 m2, .int .i64 m3, .int .i64 m4, .int .i64 m5, .int .i64 n0, .int .i64 n1, .int .i64 n2, .int .i64 far, .int .i64 stp, .int .i64 gap, .int .i64 need, .int .i64 meas, .int .i64 away, .int .i64 num, .int .i64 den, .int .i64 tms, .int .i64 spr] ++ (zN.drop 23).take 21 ++ pc c ++ (zN.drop 241).take 42 ++ [.int .i64 x, .int .i64 y] ++ zN.drop 285
theorem navV_is (r0 r1 r2 r3 m0 m1 m2 m3 m4 m5 n0 n1 n2 far stp gap need meas away num den tms spr x y c : Int) : (navV r0 r1 r2 r3 m0 m1 m2 m3 m4 m5 n0 n1 n2 far stp gap need meas away num den tms spr x y c).length = 308 ∧ (navV r0 r1 r2 r3 m0 m1 m2 m3 m4 m5 n0 n1 n2 far stp gap need meas away num den tms spr x y c)[285]? = some (.int .i64 0) ∧ (navV r0 r1 r2 r3 m0 m1 m2 m3 m4 m5 n0 n1 n2 far stp gap need meas away num den tms spr x y c)[302]? = some (.bool false) ∧ (navV r0 r1 r2 r3 m0 m1 m2 m3 m4 m5 n0 n1 n2 far stp gap need meas away num den tms spr x y c)[303]? = some (.int .u16 0) ∧ (navV r0 r1 r2 r3 m0 m1 m2 m3 m4 m5 n0 n1 n2 far stp gap need meas away num den tms spr x y c)[304]? = some (.int .u32 0) :=
 ⟨by kernel_rfl, by kernel_rfl, by kernel_rfl, by kernel_rfl, by kernel_rfl⟩
theorem range_of {w : World} {g : Nat} {t : TypeId} {l : List Value} (h : Blk w g t l) : w.rangeAt g 0 l := fun j v hv => by rw [Nat.zero_add, h.cell]; exact hv
structure NX (w : World) (cf : List Value) (x y : Int) (A : Option Addr) (L : List UInt8) (lo hi : Nat) (wr : World) : Prop where
 conf : Blk wr w.heap.size 32 cf
 spot : Blk wr (w.heap.size + 1) 34 [.int .i64 x, .int .i64 y]
 rd : RdL wr lo hi A (L.map bv)
 keep : Below w.heap.size w wr
 hhi : hi ≤ w.heap.size
theorem NX.next {w wr w' : World} {cf : List Value} {x y : Int} {A : Option Addr} {L : List UInt8} {lo hi : Nat} (h : NX w cf x y A L lo hi wr) (hb : Below wr.heap.size wr w') : NX w cf x y A L lo hi w' := ⟨h.conf.next hb, h.spot.next hb, h.rd.next hb, bt h.keep hb, h.hhi⟩
theorem NX.cells {w wr : World} {cf : List Value} {x y : Int} {A : Option Addr} {L : List UInt8} {lo hi : Nat} (h : NX w cf x y A L lo hi wr) {g : Nat} (hg : w.heap.size + 1 < g) (o : Nat) (vs : List Value) : NX w cf x y A L lo hi (wr.setCells g o vs) :=
 ⟨blk_cells (by omega) vs o wr h.conf, blk_cells (by omega) vs o wr h.spot, rd_cells (by have := h.hhi; omega) vs o wr h.rd, below_cells vs o h.keep (by omega), h.hhi⟩
def modeN (L : List UInt8) (x y : Int) : Int := if getC L ≠ 0 ∨ ¬ (-68719476736 ≤ x ∧ x ≤ 68719476736 ∧ -68719476736 ≤ y ∧ y ≤ 68719476736) then 4 else 0
def GotNew (w : World) (L : List UInt8) (x y : Int) (e : Ending) (w' : World) : Prop :=
 ∃ g, e = .returned (.tuple #[.pointer (some ⟨g, 0, none⟩), .int .i64 0]) ∧ NS w' g (modeN L x y) 0 ∧ w.heap.size ≤ g ∧ Below w.heap.size w w'
set_option maxRecDepth 100000 in
set_option maxHeartbeats 4000000 in
theorem nnew_any (r0 r1 r2 r3 m0 m1 m2 m3 m4 m5 n0 n1 n2 far stp gap need meas away num den tms spr x y : Int) (hck : ∀ w, Calls Tryz.prog 14 #[.agg (cfL r0 r1 r2 r3 m0 m1 m2 m3 m4 m5 n0 n1 n2 far stp gap need meas away num den tms spr).toArray] w fun e w' => e = .returned (.int .i64 0) ∧ Below w.heap.size w w')
  (A : Option Addr) (L : List UInt8) (n cap lo hi : Nat) (w : World) (h : RdL w lo hi A (L.map bv)) (hhi : hi ≤ w.heap.size) (hn : L.length = n) (hl : n ≤ 100000) (hcap : n ≤ cap) (hA : A = none → n = 0 ∧ cap = 0) :
  Calls Tryz.prog 32 #[.slice A n cap, .agg (cfL r0 r1 r2 r3 m0 m1 m2 m3 m4 m5 n0 n1 n2 far stp gap need meas away num den tms spr).toArray, .agg #[.int .i64 x, .int .i64 y]] w (GotNew w L x y) := by
 unfold cfL at hck ⊢
 have hb1 := Blk.mk (w.alloc (.cells #[.int .u32 r0, .int .i64 r1, .int .i64 r2, .int .i64 r3, .int .i64 m0, .int .i64 m1, .int .i64 m2, .int .i64 m3, .int .i64 m4, .int .i64 m5, .int .i64 n0, .int .i64 n1, .int .i64 n2, .int .i64 far, .int .i64 stp, .int .i64 gap, .int .i64 need, .int .i64 meas, .int .i64 away, .int .i64 num, .int .i64 den, .int .i64 tms, .int .i64 spr] 32)) 34 [.int .i64 x, .int .i64 y]
 rw [World.size_alloc] at hb1
 have HX : Hid (NX w [.int .u32 r0, .int .i64 r1, .int .i64 r2, .int .i64 r3, .int .i64 m0, .int .i64 m1, .int .i64 m2, .int .i64 m3, .int .i64 m4, .int .i64 m5, .int .i64 n0, .int .i64 n1, .int .i64 n2, .int .i64 far, .int .i64 stp, .int .i64 gap, .int .i64 need, .int .i64 meas, .int .i64 away, .int .i64 num, .int .i64 den, .int .i64 tms, .int .i64 spr] x y A L lo hi ((w.alloc (.cells #[.int .u32 r0, .int .i64 r1, .int .i64 r2, .int .i64 r3, .int .i64 m0, .int .i64 m1, .int .i64 m2, .int .i64 m3, .int .i64 m4, .int .i64 m5, .int .i64 n0, .int .i64 n1, .int .i64 n2, .int .i64 far, .int .i64 stp, .int .i64 gap, .int .i64 need, .int .i64 meas, .int .i64 away, .int .i64 num, .int .i64 den, .int .i64 tms, .int .i64 spr] 32)).alloc (.cells #[.int .i64 x, .int .i64 y] 34))) := Lib.hid ⟨(Blk.mk w 32 [.int .u32 r0, .int .i64 r1, .int .i64 r2, .int .i64 r3, .int .i64 m0, .int .i64 m1, .int .i64 m2, .int .i64 m3, .int .i64 m4, .int .i64 m5, .int .i64 n0, .int .i64 n1, .int .i64 n2, .int .i64 far, .int .i64 stp, .int .i64 gap, .int .i64 need, .int .i64 meas, .int .i64 away, .int .i64 num, .int .i64 den, .int .i64 tms, .int .i64 spr]).alloc _, hb1, (h.alloc _).alloc _, bt (bl _ _) (bl _ _), hhi⟩
 have hsz : ((w.alloc (.cells #[.int .u32 r0, .int .i64 r1, .int .i64 r2, .int .i64 r3, .int .i64 m0, .int .i64 m1, .int .i64 m2, .int .i64 m3, .int .i64 m4, .int .i64 m5, .int .i64 n0, .int .i64 n1, .int .i64 n2, .int .i64 far, .int .i64 stp, .int .i64 gap, .int .i64 need, .int .i64 meas, .int .i64 away, .int .i64 num, .int .i64 den, .int .i64 tms, .int .i64 spr] 32)).alloc (.cells #[.int .i64 x, .int .i64 y] 34)).heap.size = w.heap.size + 2 := by simp
 have HSZ := Lib.hid hsz
 have HN := Lib.hid hn
 clear h hn hb1 hsz
 go_enter Tryz.func32, Tryz.ntmps32
 go_upto_region 1 with fail
 refine wp_region_list ?_
 refine wpList_load_mid rfl 32 _ rfl w.heap.size 0 rfl ([.int .u32 r0, .int .i64 r1, .int .i64 r2, .int .i64 r3, .int .i64 m0, .int .i64 m1, .int .i64 m2, .int .i64 m3, .int .i64 m4, .int .i64 m5, .int .i64 n0, .int .i64 n1, .int .i64 n2, .int .i64 far, .int .i64 stp, .int .i64 gap, .int .i64 need, .int .i64 meas, .int .i64 away, .int .i64 num, .int .i64 den, .int .i64 tms, .int .i64 spr] : List Value) _ (range_of HX.out.conf) Tryz.underlying32 rfl (by kernel_rfl) ?_
 go_wp2_with fail
 refine (hck _).mono ?_
 rintro e w2 ⟨rfl, hb2⟩
 have HX2 := Lib.hid (HX.out.next hb2)
 have HXd := Lib.hid (HX2.out.next (Below.refl _ _).drew)
 clear hck hb2 HX HSZ
 go_upto_region 4 with fail
 refine wp_region_any (by kernel_rfl) ?_
 change wpAny _ _ _ _ _ _ _ w2.drew
 refine wpAny_split 5 (L := #[false, false, false, false, false]) (f := 5) (S := fun w' => Blk w' w.heap.size 32 [.int .u32 r0, .int .i64 r1, .int .i64 r2, .int .i64 r3, .int .i64 m0, .int .i64 m1, .int .i64 m2, .int .i64 m3, .int .i64 m4, .int .i64 m5, .int .i64 n0, .int .i64 n1, .int .i64 n2, .int .i64 far, .int .i64 stp, .int .i64 gap, .int .i64 need, .int .i64 meas, .int .i64 away, .int .i64 num, .int .i64 den, .int .i64 tms, .int .i64 spr] ∧ Blk w' (w.heap.size + 1) 34 [.int .i64 x, .int .i64 y]) (by kernel_rfl) ⟨HXd.out.conf, HXd.out.spot⟩ (fun hHeld => ?_)
 simp only [List.take_succ_cons, List.take_zero, List.drop_succ_cons, List.drop_zero]
 refine wpAnyH_take (i := 0) (oi := ⟨some 17, _, _, _, _, _⟩) (v := .agg #[.int .u32 r0, .int .i64 r1, .int .i64 r2, .int .i64 r3, .int .i64 m0, .int .i64 m1, .int .i64 m2, .int .i64 m3, .int .i64 m4, .int .i64 m5, .int .i64 n0, .int .i64 n1, .int .i64 n2, .int .i64 far, .int .i64 stp, .int .i64 gap, .int .i64 need, .int .i64 meas, .int .i64 away, .int .i64 num, .int .i64 den, .int .i64 tms, .int .i64 spr]) rfl (by kernel_rfl) (by kernel_rfl) (by kernel_rfl) (fun _ _ _ h => h) (yieldsIf_load_mid (by rfl) 32 _ rfl w.heap.size 0 rfl ([.int .u32 r0, .int .i64 r1, .int .i64 r2, .int .i64 r3, .int .i64 m0, .int .i64 m1, .int .i64 m2, .int .i64 m3, .int .i64 m4, .int .i64 m5, .int .i64 n0, .int .i64 n1, .int .i64 n2, .int .i64 far, .int .i64 stp, .int .i64 gap, .int .i64 need, .int .i64 meas, .int .i64 away, .int .i64 num, .int .i64 den, .int .i64 tms, .int .i64 spr] : List Value) _ (fun w' hS => range_of hS.1) Tryz.underlying32 rfl (by kernel_rfl)) (by assumption) ?_
 try simp only [Act.put, List.setIfInBounds_toArray, List.set_cons_zero, List.set_cons_succ]
 refine wpAnyH_take (i := 1) (oi := ⟨some 18, _, _, _, _, _⟩) (v := .agg #[.int .i64 x, .int .i64 y]) rfl (by kernel_rfl) (by kernel_rfl) (by kernel_rfl) (fun _ _ _ h => h) (yieldsIf_load_mid (by rfl) 34 _ rfl (w.heap.size + 1) 0 rfl ([.int .i64 x, .int .i64 y] : List Value) _ (fun w' hS => range_of hS.2) Tryz.underlying34 rfl (by kernel_rfl)) (by assumption) ?_
 try simp only [Act.put, List.setIfInBounds_toArray, List.set_cons_zero, List.set_cons_succ]
 refine wpAnyH_take (i := 2) (oi := ⟨some 19, _, _, _, _, _⟩) (v := ?_) rfl (by kernel_rfl) (by kernel_rfl) (by kernel_rfl) (fun _ _ _ h => h) (Or.inl ⟨by rfl, ?_⟩) (by assumption) ?_
 rotate_left
 ·(intro w hSw; (try dsimp only at hSw); go_simp; try (with_reducible rfl))
 try simp only [Act.put, List.setIfInBounds_toArray, List.set_cons_zero, List.set_cons_succ]
 refine wpAnyH_take (i := 3) (oi := ⟨some 20, _, _, _, _, _⟩) (v := ?_) rfl (by kernel_rfl) (by kernel_rfl) (by kernel_rfl) (fun _ _ _ h => h) (Or.inl ⟨by rfl, ?_⟩) (by assumption) ?_
 rotate_left
 ·(intro w hSw; have c5 := hSw.1.cell 15; go_simp; try (with_reducible rfl))
 try simp only [Act.put, List.setIfInBounds_toArray, List.set_cons_zero, List.set_cons_succ]
 refine wpAnyH_ready (rs := [4]) (by kernel_rfl) (by simp) ?_
 refine AllReadyH.cons (o := ⟨some 21, _, _, _, _, _⟩) rfl (fun K hK => ?_) AllReadyH.nil
 go_simp
 refine (Nav.pnew_any gap _).mono ?_
 rintro e w3 ⟨⟨pg, rfl⟩, hb3⟩
 have HX3 := Lib.hid (HXd.out.next hb3)
 go_wp2_with fail
 refine hK.out _ _ ⟨HX3.out.conf, HX3.out.spot⟩ (fun hHeld => ?_)
 clear hK K
 try simp only [Act.put, List.setIfInBounds_toArray, List.set_cons_zero, List.set_cons_succ]
 refine wpAnyH_done (by kernel_rfl) ?_ _
 change wpList _ _ _ _ _ _
 refine wpList_buildTo rfl 121 _ rfl _ rfl (navV r0 r1 r2 r3 m0 m1 m2 m3 m4 m5 n0 n1 n2 far stp gap need meas away num den tms spr x y pg).toArray (by kernel_rfl) ?_
 obtain ⟨nl, n1', n2', n3', n4'⟩ := navV_is r0 r1 r2 r3 m0 m1 m2 m3 m4 m5 n0 n1 n2 far stp gap need meas away num den tms spr x y pg
 generalize navV r0 r1 r2 r3 m0 m1 m2 m3 m4 m5 n0 n1 n2 far stp gap need meas away num den tms spr x y pg = nv at *
 try simp only [Act.put, List.setIfInBounds_toArray, List.set_cons_zero, List.set_cons_succ]
 have hg3 : w.heap.size + 1 < w3.heap.size := HX3.out.spot.lt
 have HNS := Lib.hid (show NS (w3.alloc (.cells nv.toArray 121)) w3.heap.size 0 0 from ⟨nv, Blk.mk _ _ _, nl, n1', n2', n3', n4'⟩)
 have HX4 := Lib.hid (HX3.out.next (bl w3 (.cells nv.toArray 121)))
 have c0 := HX4.out.conf.cell 0
 have c1 := HX4.out.conf.cell 1
 have c2 := HX4.out.conf.cell 2
 have c3 := HX4.out.conf.cell 3
 have hcl := fun w => clnew_any r0 r1 r2 r3 w
 unfold rulesV at hcl
 clear nl n1' n2' n3' n4' HX3 HXd HX2 hb3
 go_wp2_with fail
 refine (hcl _).mono ?_
 rintro e w5 ⟨⟨cs, kk, rfl, hcs⟩, hb5⟩
 have HX5 := Lib.hid (HX4.out.next hb5)
 have HNS5 := Lib.hid (HNS.out.next hb5)
 have HCS := Lib.hid hcs
 clear hcl hb5 hcs c0 c1 c2 c3 HX4 HNS
 generalize w3.heap.size = g at *
 have HX6 := Lib.hid (HX5.out.cells hg3 24 cs)
 have HNS6 := Lib.hid (HNS5.out.lows cs 24 _ (by rw [HCS.out.1]; decide))
 have c4 := HX6.out.conf.cell 4
 have c5 := HX6.out.conf.cell 5
 have c6 := HX6.out.conf.cell 6
 have c7 := HX6.out.conf.cell 7
 have c8 := HX6.out.conf.cell 8
 have c9 := HX6.out.conf.cell 9
 have hwa := fun w => wanew_any m0 m1 m2 m3 m4 m5 w
 unfold marksV at hwa
 go_wp2_with (refine wpList_store_mid rfl 103 _ _ rfl g 24 cs.toArray rfl rfl (fun j hj => by rw [List.size_toArray, HCS.out.1] at hj; obtain ⟨⟨u, hu⟩, hf⟩ := HNS5.out.some (i := 24 + j) (by omega); exact ⟨by rw [hu]; rfl, hf⟩) (by rw [info_l, List.size_toArray, HCS.out.1]) HCS.out.all ?_)
 refine (hwa _).mono ?_
 rintro e w7 ⟨⟨cs7, kk7, rfl, hcs7⟩, hb7⟩
 have HX7 := Lib.hid (HX6.out.next hb7)
 have HNS7 := Lib.hid (HNS6.out.next hb7)
 have HCS7 := Lib.hid hcs7
 clear hwa hb7 hcs7 c4 c5 c6 c7 c8 c9 HX6 HNS6 HX5 HNS5 HCS
 have HX8 := Lib.hid (HX7.out.cells hg3 241 cs7)
 have HNS8 := Lib.hid (HNS7.out.lows cs7 241 _ (by rw [HCS7.out.1]; decide))
 have hca := canew_any A L n cap lo hi _ HX8.out.rd (Nat.le_trans hhi HX8.out.keep.size) HN.out hl hcap hA
 obtain ⟨gc, hgc⟩ : ∃ z, z = getC L := ⟨_, rfl⟩
 unfold GotCa at hca
 rw [← hgc] at hca
 have HGC := Lib.hid hgc
 clear hgc
 go_wp2_with (refine wpList_store_mid rfl 111 _ _ rfl g 241 cs7.toArray rfl rfl (fun j hj => by rw [List.size_toArray, HCS7.out.1] at hj; obtain ⟨⟨u, hu⟩, hf⟩ := HNS7.out.some (i := 241 + j) (by omega); exact ⟨by rw [hu]; rfl, hf⟩) (by rw [info_w, List.size_toArray, HCS7.out.1]) HCS7.out.all ?_)
 refine hca.mono ?_
 rintro e w9 ⟨⟨cp, rfl⟩, hb9⟩
 have HX9 := Lib.hid (HX8.out.next hb9)
 have HNS9 := Lib.hid (HNS8.out.next hb9)
 clear hca hb9 HX8 HNS8 HX7 HNS7 HCS7
 have hmode : ∀ (x1 : Int) (wz : World), NS wz g x1 0 → Below w.heap.size w wz → x1 = modeN L x y → GotNew w L x y (.returned (.tuple #[.pointer (some ⟨g, 0, none⟩), .int .i64 0])) wz := fun x1 wz h1 h2 h3 => ⟨g, rfl, by rw [← h3]; exact h1, by omega, h2⟩
 have HM := Lib.hid hmode
 clear hmode
 by_cases h0 : gc = 0
 ·subst h0
  have s0 := HX9.out.spot.cell 0
  have s1 := HX9.out.spot.cell 1
  have hwi := fun w => within_any x y w
  obtain ⟨b, hb⟩ : ∃ b, b = decide (-68719476736 ≤ x ∧ x ≤ 68719476736 ∧ -68719476736 ≤ y ∧ y ≤ 68719476736) := ⟨_, rfl⟩
  rw [← hb] at hwi
  have HB := Lib.hid hb
  clear hb
  go_wp2_with fail
  refine (hwi _).mono ?_
  rintro e w10 ⟨rfl, hb10⟩
  have HX10 := Lib.hid (HX9.out.next hb10)
  have HNS10 := Lib.hid (HNS9.out.next hb10)
  clear hb10 hwi s0 s1 HX9 HNS9
  cases b
  ·obtain ⟨⟨u, hu⟩, hf⟩ := HNS10.out.some (i := 285) (by decide)
   go_wp2_with fail
   refine bodyPost_ret (results_tmp2 rfl _ _ _) rfl ?_
   refine HM.out 4 _ (HNS10.out.mode 4) (HX10.out.keep.setCell (by show w.heap.size ≤ g; omega) _) ?_
   unfold modeN
   rw [if_pos (.inr (of_decide_eq_false HB.out.symm))]
  ·obtain ⟨⟨u, hu⟩, hf⟩ := HNS10.out.some (i := 23) (by decide)
   go_wp2_with fail
   refine bodyPost_ret (results_tmp2 rfl _ _ _) rfl ?_
   refine HM.out 0 _ (HNS10.out.low (i := 23) (by decide) _) (HX10.out.keep.setCell (by show w.heap.size ≤ g; omega) _) ?_
   unfold modeN
   rw [if_neg (fun h => h.elim (fun h => h HGC.out.symm) (fun h => h (of_decide_eq_true HB.out.symm)))]
 ·have k0 : (gc != 0) = true := bne_iff_ne.2 h0
  obtain ⟨⟨u, hu⟩, hf⟩ := HNS9.out.some (i := 285) (by decide)
  have HG0 := Lib.hid h0
  clear h0
  go_wp2_with fail
  refine bodyPost_ret (results_tmp2 rfl _ _ _) rfl ?_
  refine HM.out 4 _ (HNS9.out.mode 4) (HX9.out.keep.setCell (by show w.heap.size ≤ g; omega) _) ?_
  unfold modeN
  rw [if_pos (.inl (by rw [← HGC.out]; exact HG0.out))]
end Nav
end
end Go.Proofs.YtekjehbkmlodmaaGreat
