/-
  The walks of package profile: the last height, a new profile, all cleared.
-/
import Derived.Test.YtpnafccedgjaeaaProfW
namespace Go.Proofs.Ytpnafccedgjaeaa
open Go.RowKit
namespace Prof

/-- a height's value -/
def Smp.v (s : Smp) : Value := .agg #[.int .i64 s.dx, .int .i64 s.dy, .int .i64 s.z]

set_option maxHeartbeats 1000000 in
theorem last_any (g : Nat) (p : Pr) (w : World) (h : PB w g p) (hk : ok p) :
    Calls Try.prog 49 #[.pointer (some ⟨g, 0, none⟩)] w fun e w' => e = .returned (last p).v ∧ Below w.heap.size w w' := by
  have hg := h.lt
  obtain ⟨cd, cy, cz, c1, c2, _⟩ := (h.alloc (.cells #[.int .i64 0, .int .i64 0, .int .i64 0] 39)).cells
  obtain ⟨hk1, hk2, _⟩ := hk
  obtain ⟨ix, hix⟩ : ∃ ix, ix = (p.first + p.n + 63) % 64 := ⟨_, rfl⟩
  have hix64 : ix < 64 := by omega
  have d1 := cd ix hix64
  have d2 := cy ix hix64
  have d3 := cz ix hix64
  have hl : last p = p.l ix := by unfold last; rw [hix]
  have Hl := Lib.hid hl; clear hl
  clear cd cy cz
  generalize p.l ix = s at *
  have s1 : IntKind.i64.wrap ((p.first : Int) + (p.n : Int)) = (p.first : Int) + (p.n : Int) := IntWalk.i64_in _ (by omega)
  have s2 : IntKind.i64.wrap ((p.first : Int) + (p.n : Int) + 64) = (p.first : Int) + (p.n : Int) + 64 := IntWalk.i64_in _ (by omega)
  have s3 : IntKind.i64.wrap ((p.first : Int) + (p.n : Int) + 64 - 1) = (p.first : Int) + (p.n : Int) + 64 - 1 := IntWalk.i64_in _ (by omega)
  have s4 : ((p.first : Int) + (p.n : Int) + 64 - 1).tmod 64 = (ix : Int) := by rw [Int.tmod_eq_emod_of_nonneg (by omega)]; omega
  clear hix
  go_enter Try.func49, Try.ntmps49
  go_wp2
  go_region
  go_wp2
  refine bodyPost_ret (v := .agg #[.int .i64 s.dx, .int .i64 s.dy, .int .i64 s.z]) (by simp [results, Try.results49, go_sem]) rfl ⟨by rw [Hl.out]; rfl, (bl _ _).drew⟩

theorem info42 : (Try.prog.info? 42).map (·.size) = some 197 := by kernel_rfl
def newCells (g : Int) : Array Value := ((List.replicate 196 (Value.int .i64 0)) ++ [Value.int .i64 g]).toArray
theorem newCells_size (g : Int) : (newCells g).size = 197 := by
  unfold newCells
  rw [List.size_toArray, List.length_append, List.length_replicate]
  rfl
theorem newCells_one (g : Int) : (newCells g).all (·.oneCell') = true := by
  rw [Array.all_eq_true_iff_forall_mem]
  intro v hv
  unfold newCells at hv
  simp only [List.mem_toArray, List.mem_append, List.mem_replicate, List.mem_singleton] at hv
  rcases hv with ⟨_, rfl⟩ | rfl <;> rfl
theorem newCells_zero (g : Int) (i : Nat) (h : i < 196) : (newCells g)[i]? = some (.int .i64 0) := by
  unfold newCells
  rw [List.getElem?_toArray, List.getElem?_append_left (by rw [List.length_replicate]; exact h), List.getElem?_replicate, if_pos h]
theorem newCells_gap (g : Int) : (newCells g)[196]? = some (.int .i64 g) := by
  unfold newCells
  rw [List.getElem?_toArray, List.getElem?_append_right (by rw [List.length_replicate]; exact Nat.le_refl _), List.length_replicate]
  rfl
theorem newCells_fits (g : Int) : Fits (newCells (clamp g)) (new g) := by
  refine ⟨newCells_size _, fun i hi => newCells_zero _ _ (by omega), fun i hi => newCells_zero _ _ (by omega), fun i hi => newCells_zero _ _ (by omega), newCells_zero _ _ (by omega), newCells_zero _ _ (by omega), newCells_zero _ _ (by omega), newCells_zero _ _ (by omega), newCells_gap _⟩

theorem newCells_set (g : Int) : (newCells 0).setIfInBounds 196 (.int .i64 g) = newCells g := by
  apply Array.ext_getElem?
  intro i
  by_cases hi : i < 196
  · rw [Array.getElem?_setIfInBounds_ne (by omega), newCells_zero _ _ hi, newCells_zero _ _ hi]
  · by_cases hi' : i = 196
    · subst hi'
      rw [Array.getElem?_setIfInBounds_self_of_lt (by rw [newCells_size]; decide), newCells_gap]
    · rw [Array.getElem?_eq_none (by rw [Array.size_setIfInBounds, newCells_size]; omega), Array.getElem?_eq_none (by rw [newCells_size]; omega)]

theorem below_row {B : Nat} {a w : World} {g : Nat} (h : Below B a w) (hg : B ≤ g) (cs : Array Value) : Below B a (w.setRow g cs) :=
  h.trans ⟨rfl, rfl, rfl, by simp, fun k hk => setRow_other w g k cs (by omega)⟩
set_option maxRecDepth 1000000 in
set_option maxHeartbeats 1000000 in
theorem new_any (g : Int) (w : World) :
    Calls Try.prog 24 #[.int .i64 g] w fun e w' => e = .returned (.agg (newCells (clamp g))) ∧ Below w.heap.size w w' := by
  have hz : ∀ w, (zeroValue 42).run Try.prog w = .ok (.agg (newCells 0)) w := fun _ => by kernel_rfl
  have hns := newCells_size 0
  have hc : (g < 0 ∧ clamp g = 0) ∨ (0 ≤ g ∧ 1048576 < g ∧ clamp g = 1048576) ∨ (0 ≤ g ∧ g ≤ 1048576 ∧ clamp g = g) := by unfold clamp; omega
  generalize clamp g = c at *
  rcases hc with ⟨h1, rfl⟩ | ⟨h1, h2, rfl⟩ | ⟨h1, h2, rfl⟩
  · go_enter Try.func24, Try.ntmps24
    go_wp2_with (refine wpList_store_row rfl 42 _ _ rfl w.heap.size (newCells 0) rfl (congrArg Value.agg (newCells_set 0)) 42 (newCells 0) (heap_alloc_new w _) (by rw [info42, newCells_size]) (by simp only [newCells_size]) (newCells_one 0) ?_)
    refine bodyPost_ret (results_cell_row rfl _ _ w.heap.size 42 _ (0, 0) _ rfl (setRow_heap _ _ _ _ _ _ (heap_alloc_new w _)) Try.underlying42 rfl (by rw [info42, newCells_size])) rfl ?_
    exact ⟨rfl, below_row (bl w _) (Nat.le_refl _) _⟩
  · go_enter Try.func24, Try.ntmps24
    go_wp2_with (refine wpList_store_row rfl 42 _ _ rfl w.heap.size (newCells 1048576) rfl (congrArg Value.agg (newCells_set 1048576)) 42 (newCells 0) (heap_alloc_new w _) (by rw [info42, newCells_size]) (by rw [newCells_size, newCells_size]) (newCells_one 1048576) ?_)
    refine bodyPost_ret (results_cell_row rfl _ _ w.heap.size 42 _ (0, 0) _ rfl (setRow_heap _ _ _ _ _ _ (heap_alloc_new w _)) Try.underlying42 rfl (by rw [info42, newCells_size])) rfl ?_
    exact ⟨rfl, below_row (bl w _) (Nat.le_refl _) _⟩
  · go_enter Try.func24, Try.ntmps24
    go_wp2_with (refine wpList_store_row rfl 42 _ _ rfl w.heap.size (newCells c) rfl (congrArg Value.agg (newCells_set c)) 42 (newCells 0) (heap_alloc_new w _) (by rw [info42, newCells_size]) (by rw [newCells_size, newCells_size]) (newCells_one c) ?_)
    refine bodyPost_ret (results_cell_row rfl _ _ w.heap.size 42 _ (0, 0) _ rfl (setRow_heap _ _ _ _ _ _ (heap_alloc_new w _)) Try.underlying42 rfl (by rw [info42, newCells_size])) rfl ?_
    exact ⟨rfl, below_row (bl w _) (Nat.le_refl _) _⟩

/-- a whole profile is stored -/
theorem row_set {w : World} {g : Nat} {old : Array Value} (h : w.heap[g]? = some (.cells old 42 (0, 0))) {cs : Array Value} {p : Pr} (hf : Fits cs p) : PB (w.setRow g cs) g p :=
  ⟨cs, setRow_heap w g old cs 42 (0, 0) h, hf⟩
theorem only_row {a w : World} {g : Nat} (h : a.grownBy w (some g)) (cs : Array Value) : a.grownBy (w.setRow g cs) (some g) :=
  ⟨h.os, h.tape, h.output, by simpa using h.size, fun i hi hne => (setRow_other w g i cs (fun e => hne (by rw [e]))).trans (h.block i hi hne)⟩

set_option maxRecDepth 1000000 in
set_option maxHeartbeats 1000000 in
theorem clear_any (g : Nat) (p : Pr) (w : World) (h : PB w g p) :
    Calls Try.prog 30 #[.pointer (some ⟨g, 0, none⟩)] w fun e w' => e = .returned (.tuple #[]) ∧ PB w' g (new p.gap) ∧ w.grownBy w' (some g) := by
  obtain ⟨_, _, _, _, _, _, _, c⟩ := h.cells
  go_enter Try.func30, Try.ntmps30
  go_wp2_with fail
  refine (new_any _ _).mono ?_
  rintro e w1 ⟨rfl, hb⟩
  obtain ⟨old, h1, hf⟩ := h.below hb h.lt
  have Hf := Lib.hid hf; clear hf
  go_wp2_with (refine wpList_store_row rfl 42 _ _ rfl g (newCells _) rfl rfl 42 old h1 (by rw [info42, newCells_size]) (by rw [Hf.out.size, newCells_size]) (newCells_one _) ?_)
  go_end0
  exact ⟨rfl, row_set h1 (newCells_fits _), only_row (only_below hb _) _⟩

theorem clamp_id {g : Int} (h1 : 0 ≤ g) (h2 : g ≤ 1048576) : clamp g = g := by unfold clamp; omega
end Prof
end Go.Proofs.Ytpnafccedgjaeaa
