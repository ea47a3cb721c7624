/-
  The walks of package profile: what each method computes, in the words of the plain law.
-/
import Derived.Test.YtpnafccedgjaeaaRows
import Derived.Test.YtpnafccedgjaeaaBase
import Derived.Test.YtpnafccedgjaeaaProfP
import Derived.Deep.QuietTactic
import Derived.BigQuiet
import Derived.BigRegion
import Derived.IntWalk
namespace Go.Proofs.Ytpnafccedgjaeaa
open Go.RowKit
namespace Prof

/-- cells that hold a profile -/
structure Fits (cs : Array Value) (p : Pr) : Prop where
  size : cs.size = 197
  dx : ∀ i, i < 64 → cs[i * 3]? = some (.int .i64 (p.l i).dx)
  dy : ∀ i, i < 64 → cs[i * 3 + 1]? = some (.int .i64 (p.l i).dy)
  z : ∀ i, i < 64 → cs[i * 3 + 2]? = some (.int .i64 (p.l i).z)
  first : cs[192]? = some (.int .i64 (p.first : Int))
  n : cs[193]? = some (.int .i64 (p.n : Int))
  x : cs[194]? = some (.int .i64 p.x)
  y : cs[195]? = some (.int .i64 p.y)
  gap : cs[196]? = some (.int .i64 p.gap)
/-- block g holds a profile -/
def PB (w : World) (g : Nat) (p : Pr) : Prop := ∃ cs, w.heap[g]? = some (.cells cs 42 (0, 0)) ∧ Fits cs p

section
variable {w w' : World} {g : Nat} {p : Pr}
theorem PB.lt (h : PB w g p) : g < w.heap.size := by
  obtain ⟨cs, h, _⟩ := h
  rcases Nat.lt_or_ge g w.heap.size with h' | h'
  · exact h'
  · rw [Array.getElem?_eq_none h'] at h; cases h
theorem PB.kept (h : PB w g p) (hk : w'.heap[g]? = w.heap[g]?) : PB w' g p := by
  obtain ⟨cs, h, hf⟩ := h
  exact ⟨cs, hk.trans h, hf⟩
theorem PB.drewN (h : PB w g p) (k : Nat) : PB (w.drewN k) g p := h
theorem PB.drew (h : PB w g p) : PB w.drew g p := h
theorem PB.alloc (h : PB w g p) (o : Obj) : PB (w.alloc o) g p := h.kept (Below.heap_alloc w o g h.lt)
theorem PB.below {B : Nat} (h : PB w g p) (hb : Below B w w') (hg : g < B) : PB w' g p := h.kept (hb.block g hg)
theorem PB.grown {row : Option Nat} (h : PB w g p) (hb : w.grownBy w' row) (hr : some g ≠ row) : PB w' g p := h.kept (hb.block g h.lt hr)
theorem PB.far (h : PB w g p) {a : Addr} (hp : g ≠ a.block) (u : Value) : PB (w.setCell a u) g p := h.kept (Below.heap_setCell w a u g hp)
theorem PB.cells (h : PB w g p) : (∀ i, i < 64 → w.cell? ⟨g, i * 3, none⟩ = some (.int .i64 (p.l i).dx)) ∧ (∀ i, i < 64 → w.cell? ⟨g, i * 3 + 1, none⟩ = some (.int .i64 (p.l i).dy)) ∧ (∀ i, i < 64 → w.cell? ⟨g, i * 3 + 2, none⟩ = some (.int .i64 (p.l i).z)) ∧
    w.cell? ⟨g, 192, none⟩ = some (.int .i64 (p.first : Int)) ∧ w.cell? ⟨g, 193, none⟩ = some (.int .i64 (p.n : Int)) ∧ w.cell? ⟨g, 194, none⟩ = some (.int .i64 p.x) ∧ w.cell? ⟨g, 195, none⟩ = some (.int .i64 p.y) ∧ w.cell? ⟨g, 196, none⟩ = some (.int .i64 p.gap) := by
  obtain ⟨cs, h, hf⟩ := h
  have hc := fun j => cell_of_row w g j cs 42 (0, 0) h
  exact ⟨fun i hi => (hc _).trans (hf.dx i hi), fun i hi => (hc _).trans (hf.dy i hi), fun i hi => (hc _).trans (hf.z i hi), (hc _).trans hf.first, (hc _).trans hf.n, (hc _).trans hf.x, (hc _).trans hf.y, (hc _).trans hf.gap⟩
theorem PB.free (h : PB w g p) (j : Nat) : w.frozen? ⟨g, j, none⟩ = false := by
  obtain ⟨cs, h, _⟩ := h
  exact frozen_of_row w g j cs 42 h
theorem PB.set (h : PB w g p) {i : Nat} {u : Value} {p' : Pr} (hs : ∀ cs, Fits cs p → Fits (cs.setIfInBounds i u) p') : PB (w.setCell ⟨g, i, none⟩ u) g p' := by
  obtain ⟨cs, h, hf⟩ := h
  exact ⟨_, heap_setCell_same w g i cs 42 u h, hs cs hf⟩
end

/-- 'only block g has turned, and what is new' -/
theorem only_drewN {a w : World} {row : Option Nat} (h : a.grownBy w row) (n : Nat) : a.grownBy (w.drewN n) row := ⟨h.os, h.tape, h.output, h.size, h.block⟩
theorem only_drew {a w : World} {row : Option Nat} (h : a.grownBy w row) : a.grownBy w.drew row := ⟨h.os, h.tape, h.output, h.size, h.block⟩
theorem only_set {a w : World} {g : Nat} (h : a.grownBy w (some g)) (i : Nat) (u : Value) : a.grownBy (w.setCell ⟨g, i, none⟩ u) (some g) :=
  ⟨h.os, h.tape, h.output, by simpa [World.setCell] using h.size, fun i hi hne => (Below.heap_setCell w _ u i (fun e => hne (by rw [e]))).trans (h.block i hi hne)⟩
theorem only_alloc {a w : World} {row : Option Nat} (h : a.grownBy w row) (o : Obj) : a.grownBy (w.alloc o) row :=
  ⟨h.os, h.tape, h.output, Nat.le_trans h.size (by simp), fun i hi hne => (Below.heap_alloc w o i (Nat.lt_of_lt_of_le hi h.size)).trans (h.block i hi hne)⟩
theorem only_refl (w : World) (row : Option Nat) : w.grownBy w row := ⟨rfl, rfl, rfl, Nat.le_refl _, fun _ _ _ => rfl⟩
theorem only_trans {a b c : World} {row : Option Nat} (h : a.grownBy b row) (k : b.grownBy c row) : a.grownBy c row :=
  ⟨k.os.trans h.os, k.tape.trans h.tape, k.output.trans h.output, Nat.le_trans h.size k.size, fun i hi hne => (k.block i (Nat.lt_of_lt_of_le hi h.size) hne).trans (h.block i hi hne)⟩
theorem only_below {a w : World} (h : Below a.heap.size a w) (row : Option Nat) : a.grownBy w row := ⟨h.os, h.tape, h.output, h.size, fun i hi _ => h.block i hi⟩

theorem len_any (g : Nat) (p : Pr) (w : World) (h : PB w g p) :
    Calls Try.prog 32 #[.pointer (some ⟨g, 0, none⟩)] w fun e w' => e = .returned (.int .i64 (p.n : Int)) ∧ w = w' := by
  obtain ⟨_, _, _, _, c, _⟩ := h.cells
  go_enter Try.func32, Try.ntmps32
  go_wp2
  go_ret
  exact ⟨rfl, rfl⟩

theorem at_any (g : Nat) (p : Pr) (w : World) (h : PB w g p) :
    Calls Try.prog 31 #[.pointer (some ⟨g, 0, none⟩)] w fun e w' => e = .returned (.tuple #[.int .i64 p.x, .int .i64 p.y]) ∧ ∃ k, w' = w.drewN k := by
  obtain ⟨_, _, _, _, _, c1, c2, _⟩ := h.cells
  go_enter Try.func31, Try.ntmps31
  go_wp2
  go_quiet (fail)
  go_wp2
  go_ret2
  exact ⟨rfl, _, rfl⟩

theorem outB {v : Int} (h : ¬ inB v) : v < -16777216 ∨ (-16777216 ≤ v ∧ 16777216 < v) := by unfold inB at h; omega
theorem Fits.setXY {cs : Array Value} {p : Pr} (h : Fits cs p) (x y : Int) : Fits ((cs.setIfInBounds 194 (.int .i64 x)).setIfInBounds 195 (.int .i64 y)) { p with x := x, y := y } := by
  have hs := h.size
  refine ⟨by simp [hs], fun i hi => ?_, fun i hi => ?_, fun i hi => ?_, ?_, ?_, ?_, ?_, ?_⟩
  · rw [Array.getElem?_setIfInBounds_ne (by omega), Array.getElem?_setIfInBounds_ne (by omega)]; exact h.dx i hi
  · rw [Array.getElem?_setIfInBounds_ne (by omega), Array.getElem?_setIfInBounds_ne (by omega)]; exact h.dy i hi
  · rw [Array.getElem?_setIfInBounds_ne (by omega), Array.getElem?_setIfInBounds_ne (by omega)]; exact h.z i hi
  · rw [Array.getElem?_setIfInBounds_ne (by omega), Array.getElem?_setIfInBounds_ne (by omega)]; exact h.first
  · rw [Array.getElem?_setIfInBounds_ne (by omega), Array.getElem?_setIfInBounds_ne (by omega)]; exact h.n
  · rw [Array.getElem?_setIfInBounds_ne (by omega), Array.getElem?_setIfInBounds_self_of_lt (by omega)]
  · rw [Array.getElem?_setIfInBounds_self_of_lt (by simp; omega)]
  · rw [Array.getElem?_setIfInBounds_ne (by omega), Array.getElem?_setIfInBounds_ne (by omega)]; exact h.gap
theorem PB.setXY {w : World} {g : Nat} {p : Pr} (h : PB w g p) (x y : Int) : PB ((w.setCell ⟨g, 194, none⟩ (.int .i64 x)).setCell ⟨g, 195, none⟩ (.int .i64 y)) g { p with x := x, y := y } := by
  obtain ⟨cs, h, hf⟩ := h
  refine ⟨_, ?_, hf.setXY x y⟩
  exact heap_setCell_same _ g 195 _ 42 _ (heap_setCell_same w g 194 cs 42 _ h)

set_option maxHeartbeats 2000000 in
theorem move_any (g : Nat) (p : Pr) (dx dy : Int) (w : World) (h : PB w g p) (hk : ok p) :
    Calls Try.prog 27 #[.pointer (some ⟨g, 0, none⟩), .int .i64 dx, .int .i64 dy] w fun e w' => e = .returned (.bool (mayMove p.x p.y dx dy)) ∧ PB w' g (move p dx dy) ∧ w.grownBy w' (some g) := by
  obtain ⟨_, _, _, _, _, c1, c2, _⟩ := h.cells
  obtain ⟨_, _, ⟨hx1, hx2⟩, ⟨hy1, hy2⟩, _⟩ := hk
  have f := h.free
  by_cases h1 : inB dx
  · by_cases h3 : inB dy
    · have w1 : inB dx → IntKind.i64.wrap (p.x + dx) = p.x + dx := fun h => IntWalk.i64_in _ (by unfold inB at h; omega)
      have w2 : inB dy → IntKind.i64.wrap (p.y + dy) = p.y + dy := fun h => IntWalk.i64_in _ (by unfold inB at h; omega)
      replace w1 := w1 h1
      replace w2 := w2 h3
      by_cases h5 : inB (p.x + dx)
      · by_cases h7 : inB (p.y + dy)
        · have hmv : mayMove p.x p.y dx dy = true := by simp [mayMove, *]
          have Hmv := Lib.hid hmv; clear hmv
          obtain ⟨h1, h2⟩ := h1
          obtain ⟨h3, h4⟩ := h3
          obtain ⟨h5, h6⟩ := h5
          obtain ⟨h7, h8⟩ := h7
          go_enter Try.func27, Try.ntmps27
          go_wp2
          go_quiet (fail)
          clear w1 w2
          go_wp2
          go_ret
          refine ⟨by rw [Hmv.out]; rfl, ?_, only_set (only_set (only_drewN (only_refl _ _) _) _ _) _ _⟩
          unfold move
          rw [if_pos Hmv.out]
          exact (h.drewN _).setXY _ _
        · have hmv : mayMove p.x p.y dx dy = false := by simp [mayMove, h7]
          have Hmv := Lib.hid hmv; clear hmv
          obtain ⟨h1, h2⟩ := h1
          obtain ⟨h3, h4⟩ := h3
          obtain ⟨h5, h6⟩ := h5
          rcases outB h7 with h7 | ⟨h7, h8⟩
          all_goals
            go_enter Try.func27, Try.ntmps27
            go_wp2
            go_quiet (fail)
            clear w1 w2
            go_wp2
            go_ret
            exact ⟨by rw [Hmv.out]; rfl, by unfold move; rw [if_neg (by rw [Hmv.out]; decide)]; exact h.drewN _, only_drewN (only_refl _ _) _⟩
      · have hmv : mayMove p.x p.y dx dy = false := by simp [mayMove, h5]
        have Hmv := Lib.hid hmv; clear hmv
        obtain ⟨h1, h2⟩ := h1
        obtain ⟨h3, h4⟩ := h3
        rcases outB h5 with h5' | ⟨h5', h6⟩
        all_goals
          clear h5
          go_enter Try.func27, Try.ntmps27
          go_wp2
          go_quiet (fail)
          clear w1 w2
          go_wp2
          go_ret
          exact ⟨by rw [Hmv.out]; rfl, by unfold move; rw [if_neg (by rw [Hmv.out]; decide)]; exact h.drewN _, only_drewN (only_refl _ _) _⟩
    · have hmv : mayMove p.x p.y dx dy = false := by simp [mayMove, h3]
      have Hmv := Lib.hid hmv; clear hmv
      obtain ⟨h1, h2⟩ := h1
      rcases outB h3 with h3' | ⟨h3', h4⟩
      all_goals
        clear h3
        go_enter Try.func27, Try.ntmps27
        go_wp2
        go_ret
        exact ⟨by rw [Hmv.out]; rfl, by unfold move; rw [if_neg (by rw [Hmv.out]; decide)]; exact h, only_refl _ _⟩
  · have hmv : mayMove p.x p.y dx dy = false := by simp [mayMove, h1]
    have Hmv := Lib.hid hmv; clear hmv
    rcases outB h1 with h1' | ⟨h1', h2⟩
    all_goals
      clear h1
      go_enter Try.func27, Try.ntmps27
      go_wp2
      go_ret
      exact ⟨by rw [Hmv.out]; rfl, by unfold move; rw [if_neg (by rw [Hmv.out]; decide)]; exact h, only_refl _ _⟩
end Prof
end Go.Proofs.Ytpnafccedgjaeaa
