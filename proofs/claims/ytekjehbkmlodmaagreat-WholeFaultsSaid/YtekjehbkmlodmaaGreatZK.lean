/- A part of the proof of WholeFaults. -/
import Derived.Test.YtekjehbkmlodmaaGreatZA
import Derived.Test.YtekjehbkmlodmaaGreatChecked
import Derived.Deep.DeepCutAuto
import Derived.Deep.RegionHeld3
import Derived.Test.YtekjehbkmlodmaaGreatZH
import Derived.Deep.MidRow
import Derived.Great.BuildSlice
import Derived.Test.YtekjehbkmlodmaaGreatZJ
set_option linter.unusedVariables false
set_option linter.unusedSimpArgs false
namespace Go.Proofs.YtekjehbkmlodmaaGreat
section
open Go.RowKit
namespace Nav
set_option maxRecDepth 100000 in
set_option maxHeartbeats 2000000 in
theorem clc_any (a b c d : Int) : ∃ k : Int, ∀ w, Calls Tryz.prog 41 #[.agg #[.int .u32 a, .int .i64 b, .int .i64 c, .int .i64 d]] w fun e w' => e = .returned (.int .i64 k) ∧ Below w.heap.size w w' := by
 have hc := fun w => Blk.mk w 26 [.int .u32 a, .int .i64 b, .int .i64 c, .int .i64 d]
 by_cases k0 : (60000 : Int) < a
 ·have d0 : decide ((60000 : Int) < a) = true := decide_eq_true k0
  refine ⟨2, fun w => ?_⟩
  have c0 := (hc w).cell 0
  have c1 := (hc w).cell 1
  have c2 := (hc w).cell 2
  have c3 := (hc w).cell 3
  clear hc
  go_enter Tryz.func41, Tryz.ntmps41
  go_wp2_with fail
  go_ret
  exact ⟨rfl, bl _ _⟩
 have d0 : decide ((60000 : Int) < a) = false := decide_eq_false k0
 by_cases k1 : (b : Int) < 1
 ·have d1 : decide ((b : Int) < 1) = true := decide_eq_true k1
  refine ⟨2, fun w => ?_⟩
  have c0 := (hc w).cell 0
  have c1 := (hc w).cell 1
  have c2 := (hc w).cell 2
  have c3 := (hc w).cell 3
  clear hc
  go_enter Tryz.func41, Tryz.ntmps41
  go_wp2_with fail
  go_ret
  exact ⟨rfl, bl _ _⟩
 have d1 : decide ((b : Int) < 1) = false := decide_eq_false k1
 by_cases k2 : (1048576 : Int) < b
 ·have d2 : decide ((1048576 : Int) < b) = true := decide_eq_true k2
  refine ⟨2, fun w => ?_⟩
  have c0 := (hc w).cell 0
  have c1 := (hc w).cell 1
  have c2 := (hc w).cell 2
  have c3 := (hc w).cell 3
  clear hc
  go_enter Tryz.func41, Tryz.ntmps41
  go_wp2_with fail
  go_ret
  exact ⟨rfl, bl _ _⟩
 have d2 : decide ((1048576 : Int) < b) = false := decide_eq_false k2
 by_cases k3 : (c : Int) < 0
 ·have d3 : decide ((c : Int) < 0) = true := decide_eq_true k3
  refine ⟨2, fun w => ?_⟩
  have c0 := (hc w).cell 0
  have c1 := (hc w).cell 1
  have c2 := (hc w).cell 2
  have c3 := (hc w).cell 3
  clear hc
  go_enter Tryz.func41, Tryz.ntmps41
  go_wp2_with fail
  go_ret
  exact ⟨rfl, bl _ _⟩
 have d3 : decide ((c : Int) < 0) = false := decide_eq_false k3
 by_cases k4 : (100 : Int) < c
 ·have d4 : decide ((100 : Int) < c) = true := decide_eq_true k4
  refine ⟨2, fun w => ?_⟩
  have c0 := (hc w).cell 0
  have c1 := (hc w).cell 1
  have c2 := (hc w).cell 2
  have c3 := (hc w).cell 3
  clear hc
  go_enter Tryz.func41, Tryz.ntmps41
  go_wp2_with fail
  go_ret
  exact ⟨rfl, bl _ _⟩
 have d4 : decide ((100 : Int) < c) = false := decide_eq_false k4
 by_cases k5 : (d : Int) < 1
 ·have d5 : decide ((d : Int) < 1) = true := decide_eq_true k5
  refine ⟨2, fun w => ?_⟩
  have c0 := (hc w).cell 0
  have c1 := (hc w).cell 1
  have c2 := (hc w).cell 2
  have c3 := (hc w).cell 3
  clear hc
  go_enter Tryz.func41, Tryz.ntmps41
  go_wp2_with fail
  go_ret
  exact ⟨rfl, bl _ _⟩
 have d5 : decide ((d : Int) < 1) = false := decide_eq_false k5
 by_cases k6 : (1048576 : Int) < d
 ·have d6 : decide ((1048576 : Int) < d) = true := decide_eq_true k6
  refine ⟨2, fun w => ?_⟩
  have c0 := (hc w).cell 0
  have c1 := (hc w).cell 1
  have c2 := (hc w).cell 2
  have c3 := (hc w).cell 3
  clear hc
  go_enter Tryz.func41, Tryz.ntmps41
  go_wp2_with fail
  go_ret
  exact ⟨rfl, bl _ _⟩
 have d6 : decide ((1048576 : Int) < d) = false := decide_eq_false k6
 refine ⟨0, fun w => ?_⟩
 have c0 := (hc w).cell 0
 have c1 := (hc w).cell 1
 have c2 := (hc w).cell 2
 have c3 := (hc w).cell 3
 clear hc
 go_enter Tryz.func41, Tryz.ntmps41
 go_wp2_with fail
 go_ret
 exact ⟨rfl, bl _ _⟩
set_option maxRecDepth 100000 in
set_option maxHeartbeats 2000000 in
theorem wac_any (a b c d e f : Int) : ∃ k : Int, ∀ w, Calls Tryz.prog 42 #[.agg #[.int .i64 a, .int .i64 b, .int .i64 c, .int .i64 d, .int .i64 e, .int .i64 f]] w fun e w' => e = .returned (.int .i64 k) ∧ Below w.heap.size w w' := by
 have hc := fun w => Blk.mk w 28 [.int .i64 a, .int .i64 b, .int .i64 c, .int .i64 d, .int .i64 e, .int .i64 f]
 by_cases k0 : (a : Int) < 0
 ·have d0 : decide ((a : Int) < 0) = true := decide_eq_true k0
  refine ⟨2, fun w => ?_⟩
  have c0 := (hc w).cell 0
  have c1 := (hc w).cell 1
  have c2 := (hc w).cell 2
  have c3 := (hc w).cell 3
  have c4 := (hc w).cell 4
  have c5 := (hc w).cell 5
  clear hc
  go_enter Tryz.func42, Tryz.ntmps42
  go_wp2_with fail
  go_ret
  exact ⟨rfl, bl _ _⟩
 have d0 : decide ((a : Int) < 0) = false := decide_eq_false k0
 by_cases k1 : (256 : Int) < a
 ·have d1 : decide ((256 : Int) < a) = true := decide_eq_true k1
  refine ⟨2, fun w => ?_⟩
  have c0 := (hc w).cell 0
  have c1 := (hc w).cell 1
  have c2 := (hc w).cell 2
  have c3 := (hc w).cell 3
  have c4 := (hc w).cell 4
  have c5 := (hc w).cell 5
  clear hc
  go_enter Tryz.func42, Tryz.ntmps42
  go_wp2_with fail
  go_ret
  exact ⟨rfl, bl _ _⟩
 have d1 : decide ((256 : Int) < a) = false := decide_eq_false k1
 by_cases k2 : (b : Int) < 1
 ·have d2 : decide ((b : Int) < 1) = true := decide_eq_true k2
  refine ⟨2, fun w => ?_⟩
  have c0 := (hc w).cell 0
  have c1 := (hc w).cell 1
  have c2 := (hc w).cell 2
  have c3 := (hc w).cell 3
  have c4 := (hc w).cell 4
  have c5 := (hc w).cell 5
  clear hc
  go_enter Tryz.func42, Tryz.ntmps42
  go_wp2_with fail
  go_ret
  exact ⟨rfl, bl _ _⟩
 have d2 : decide ((b : Int) < 1) = false := decide_eq_false k2
 by_cases k3 : (640 : Int) < b
 ·have d3 : decide ((640 : Int) < b) = true := decide_eq_true k3
  refine ⟨2, fun w => ?_⟩
  have c0 := (hc w).cell 0
  have c1 := (hc w).cell 1
  have c2 := (hc w).cell 2
  have c3 := (hc w).cell 3
  have c4 := (hc w).cell 4
  have c5 := (hc w).cell 5
  clear hc
  go_enter Tryz.func42, Tryz.ntmps42
  go_wp2_with fail
  go_ret
  exact ⟨rfl, bl _ _⟩
 have d3 : decide ((640 : Int) < b) = false := decide_eq_false k3
 by_cases k4 : (c : Int) < 1
 ·have d4 : decide ((c : Int) < 1) = true := decide_eq_true k4
  refine ⟨2, fun w => ?_⟩
  have c0 := (hc w).cell 0
  have c1 := (hc w).cell 1
  have c2 := (hc w).cell 2
  have c3 := (hc w).cell 3
  have c4 := (hc w).cell 4
  have c5 := (hc w).cell 5
  clear hc
  go_enter Tryz.func42, Tryz.ntmps42
  go_wp2_with fail
  go_ret
  exact ⟨rfl, bl _ _⟩
 have d4 : decide ((c : Int) < 1) = false := decide_eq_false k4
 by_cases k5 : (32 : Int) < c
 ·have d5 : decide ((32 : Int) < c) = true := decide_eq_true k5
  refine ⟨2, fun w => ?_⟩
  have c0 := (hc w).cell 0
  have c1 := (hc w).cell 1
  have c2 := (hc w).cell 2
  have c3 := (hc w).cell 3
  have c4 := (hc w).cell 4
  have c5 := (hc w).cell 5
  clear hc
  go_enter Tryz.func42, Tryz.ntmps42
  go_wp2_with fail
  go_ret
  exact ⟨rfl, bl _ _⟩
 have d5 : decide ((32 : Int) < c) = false := decide_eq_false k5
 by_cases k6 : (d : Int) < 0
 ·have d6 : decide ((d : Int) < 0) = true := decide_eq_true k6
  refine ⟨2, fun w => ?_⟩
  have c0 := (hc w).cell 0
  have c1 := (hc w).cell 1
  have c2 := (hc w).cell 2
  have c3 := (hc w).cell 3
  have c4 := (hc w).cell 4
  have c5 := (hc w).cell 5
  clear hc
  go_enter Tryz.func42, Tryz.ntmps42
  go_wp2_with fail
  go_ret
  exact ⟨rfl, bl _ _⟩
 have d6 : decide ((d : Int) < 0) = false := decide_eq_false k6
 by_cases k7 : (100 : Int) < d
 ·have d7 : decide ((100 : Int) < d) = true := decide_eq_true k7
  refine ⟨2, fun w => ?_⟩
  have c0 := (hc w).cell 0
  have c1 := (hc w).cell 1
  have c2 := (hc w).cell 2
  have c3 := (hc w).cell 3
  have c4 := (hc w).cell 4
  have c5 := (hc w).cell 5
  clear hc
  go_enter Tryz.func42, Tryz.ntmps42
  go_wp2_with fail
  go_ret
  exact ⟨rfl, bl _ _⟩
 have d7 : decide ((100 : Int) < d) = false := decide_eq_false k7
 by_cases k8 : (e : Int) < 1
 ·have d8 : decide ((e : Int) < 1) = true := decide_eq_true k8
  refine ⟨2, fun w => ?_⟩
  have c0 := (hc w).cell 0
  have c1 := (hc w).cell 1
  have c2 := (hc w).cell 2
  have c3 := (hc w).cell 3
  have c4 := (hc w).cell 4
  have c5 := (hc w).cell 5
  clear hc
  go_enter Tryz.func42, Tryz.ntmps42
  go_wp2_with fail
  go_ret
  exact ⟨rfl, bl _ _⟩
 have d8 : decide ((e : Int) < 1) = false := decide_eq_false k8
 by_cases k9 : (30 : Int) < e
 ·have d9 : decide ((30 : Int) < e) = true := decide_eq_true k9
  refine ⟨2, fun w => ?_⟩
  have c0 := (hc w).cell 0
  have c1 := (hc w).cell 1
  have c2 := (hc w).cell 2
  have c3 := (hc w).cell 3
  have c4 := (hc w).cell 4
  have c5 := (hc w).cell 5
  clear hc
  go_enter Tryz.func42, Tryz.ntmps42
  go_wp2_with fail
  go_ret
  exact ⟨rfl, bl _ _⟩
 have d9 : decide ((30 : Int) < e) = false := decide_eq_false k9
 by_cases k10 : (f : Int) < 1
 ·have d10 : decide ((f : Int) < 1) = true := decide_eq_true k10
  refine ⟨2, fun w => ?_⟩
  have c0 := (hc w).cell 0
  have c1 := (hc w).cell 1
  have c2 := (hc w).cell 2
  have c3 := (hc w).cell 3
  have c4 := (hc w).cell 4
  have c5 := (hc w).cell 5
  clear hc
  go_enter Tryz.func42, Tryz.ntmps42
  go_wp2_with fail
  go_ret
  exact ⟨rfl, bl _ _⟩
 have d10 : decide ((f : Int) < 1) = false := decide_eq_false k10
 by_cases k11 : (100 : Int) < f
 ·have d11 : decide ((100 : Int) < f) = true := decide_eq_true k11
  refine ⟨2, fun w => ?_⟩
  have c0 := (hc w).cell 0
  have c1 := (hc w).cell 1
  have c2 := (hc w).cell 2
  have c3 := (hc w).cell 3
  have c4 := (hc w).cell 4
  have c5 := (hc w).cell 5
  clear hc
  go_enter Tryz.func42, Tryz.ntmps42
  go_wp2_with fail
  go_ret
  exact ⟨rfl, bl _ _⟩
 have d11 : decide ((100 : Int) < f) = false := decide_eq_false k11
 refine ⟨0, fun w => ?_⟩
 have c0 := (hc w).cell 0
 have c1 := (hc w).cell 1
 have c2 := (hc w).cell 2
 have c3 := (hc w).cell 3
 have c4 := (hc w).cell 4
 have c5 := (hc w).cell 5
 clear hc
 go_enter Tryz.func42, Tryz.ntmps42
 go_wp2_with fail
 go_ret
 exact ⟨rfl, bl _ _⟩
set_option maxRecDepth 100000 in
set_option maxHeartbeats 2000000 in
theorem noc_any (a b c : Int) : ∃ k : Int, ∀ w, Calls Tryz.prog 43 #[.agg #[.int .i64 a, .int .i64 b, .int .i64 c]] w fun e w' => e = .returned (.int .i64 k) ∧ Below w.heap.size w w' := by
 have hc := fun w => Blk.mk w 30 [.int .i64 a, .int .i64 b, .int .i64 c]
 by_cases k0 : (a : Int) < 1
 ·have d0 : decide ((a : Int) < 1) = true := decide_eq_true k0
  refine ⟨2, fun w => ?_⟩
  have c0 := (hc w).cell 0
  have c1 := (hc w).cell 1
  have c2 := (hc w).cell 2
  clear hc
  go_enter Tryz.func43, Tryz.ntmps43
  go_wp2_with fail
  go_ret
  exact ⟨rfl, bl _ _⟩
 have d0 : decide ((a : Int) < 1) = false := decide_eq_false k0
 by_cases k1 : (1048576 : Int) < a
 ·have d1 : decide ((1048576 : Int) < a) = true := decide_eq_true k1
  refine ⟨2, fun w => ?_⟩
  have c0 := (hc w).cell 0
  have c1 := (hc w).cell 1
  have c2 := (hc w).cell 2
  clear hc
  go_enter Tryz.func43, Tryz.ntmps43
  go_wp2_with fail
  go_ret
  exact ⟨rfl, bl _ _⟩
 have d1 : decide ((1048576 : Int) < a) = false := decide_eq_false k1
 by_cases k2 : (b : Int) < 1
 ·have d2 : decide ((b : Int) < 1) = true := decide_eq_true k2
  refine ⟨2, fun w => ?_⟩
  have c0 := (hc w).cell 0
  have c1 := (hc w).cell 1
  have c2 := (hc w).cell 2
  clear hc
  go_enter Tryz.func43, Tryz.ntmps43
  go_wp2_with fail
  go_ret
  exact ⟨rfl, bl _ _⟩
 have d2 : decide ((b : Int) < 1) = false := decide_eq_false k2
 by_cases k3 : (16384 : Int) < b
 ·have d3 : decide ((16384 : Int) < b) = true := decide_eq_true k3
  refine ⟨2, fun w => ?_⟩
  have c0 := (hc w).cell 0
  have c1 := (hc w).cell 1
  have c2 := (hc w).cell 2
  clear hc
  go_enter Tryz.func43, Tryz.ntmps43
  go_wp2_with fail
  go_ret
  exact ⟨rfl, bl _ _⟩
 have d3 : decide ((16384 : Int) < b) = false := decide_eq_false k3
 by_cases k4 : (c : Int) < 1
 ·have d4 : decide ((c : Int) < 1) = true := decide_eq_true k4
  refine ⟨2, fun w => ?_⟩
  have c0 := (hc w).cell 0
  have c1 := (hc w).cell 1
  have c2 := (hc w).cell 2
  clear hc
  go_enter Tryz.func43, Tryz.ntmps43
  go_wp2_with fail
  go_ret
  exact ⟨rfl, bl _ _⟩
 have d4 : decide ((c : Int) < 1) = false := decide_eq_false k4
 by_cases k5 : (16 : Int) < c
 ·have d5 : decide ((16 : Int) < c) = true := decide_eq_true k5
  refine ⟨2, fun w => ?_⟩
  have c0 := (hc w).cell 0
  have c1 := (hc w).cell 1
  have c2 := (hc w).cell 2
  clear hc
  go_enter Tryz.func43, Tryz.ntmps43
  go_wp2_with fail
  go_ret
  exact ⟨rfl, bl _ _⟩
 have d5 : decide ((16 : Int) < c) = false := decide_eq_false k5
 refine ⟨0, fun w => ?_⟩
 have c0 := (hc w).cell 0
 have c1 := (hc w).cell 1
 have c2 := (hc w).cell 2
 clear hc
 go_enter Tryz.func43, Tryz.ntmps43
 go_wp2_with fail
 go_ret
 exact ⟨rfl, bl _ _⟩
set_option maxRecDepth 100000 in
set_option maxHeartbeats 2000000 in

theorem within_any (x y : Int) (w : World) : Calls Tryz.prog 59 #[.agg #[.int .i64 x, .int .i64 y]] w fun e w' => e = .returned (.bool (decide (-68719476736 ≤ x ∧ x ≤ 68719476736 ∧ -68719476736 ≤ y ∧ y ≤ 68719476736))) ∧ Below w.heap.size w w' := by
 have HB := Blk.mk w 34 [.int .i64 x, .int .i64 y]
 have c0 := HB.cell 0
 have c1 := HB.cell 1
 clear HB
 by_cases k0 : ¬ (-68719476736 : Int) ≤ x
 ·have d0 : decide ((-68719476736 : Int) ≤ x) = false := decide_eq_false k0
  have hb : decide (-68719476736 ≤ x ∧ x ≤ 68719476736 ∧ -68719476736 ≤ y ∧ y ≤ 68719476736) = false := decide_eq_false (by omega)
  rw [hb]
  clear hb
  go_enter Tryz.func59, Tryz.ntmps59
  go_wp2_with fail
  go_ret
  exact ⟨rfl, bl _ _⟩
 have d0 : decide ((-68719476736 : Int) ≤ x) = true := decide_eq_true (Classical.not_not.1 k0)
 by_cases k1 : ¬ (x : Int) ≤ 68719476736
 ·have d1 : decide ((x : Int) ≤ 68719476736) = false := decide_eq_false k1
  have hb : decide (-68719476736 ≤ x ∧ x ≤ 68719476736 ∧ -68719476736 ≤ y ∧ y ≤ 68719476736) = false := decide_eq_false (by omega)
  rw [hb]
  clear hb
  go_enter Tryz.func59, Tryz.ntmps59
  go_wp2_with fail
  go_ret
  exact ⟨rfl, bl _ _⟩
 have d1 : decide ((x : Int) ≤ 68719476736) = true := decide_eq_true (Classical.not_not.1 k1)
 by_cases k2 : ¬ (-68719476736 : Int) ≤ y
 ·have d2 : decide ((-68719476736 : Int) ≤ y) = false := decide_eq_false k2
  have hb : decide (-68719476736 ≤ x ∧ x ≤ 68719476736 ∧ -68719476736 ≤ y ∧ y ≤ 68719476736) = false := decide_eq_false (by omega)
  rw [hb]
  clear hb
  go_enter Tryz.func59, Tryz.ntmps59
  go_wp2_with fail
  go_ret
  exact ⟨rfl, bl _ _⟩
 have d2 : decide ((-68719476736 : Int) ≤ y) = true := decide_eq_true (Classical.not_not.1 k2)
 by_cases k3 : ¬ (y : Int) ≤ 68719476736
 ·have d3 : decide ((y : Int) ≤ 68719476736) = false := decide_eq_false k3
  have hb : decide (-68719476736 ≤ x ∧ x ≤ 68719476736 ∧ -68719476736 ≤ y ∧ y ≤ 68719476736) = false := decide_eq_false (by omega)
  rw [hb]
  clear hb
  go_enter Tryz.func59, Tryz.ntmps59
  go_wp2_with fail
  go_ret
  exact ⟨rfl, bl _ _⟩
 have d3 : decide ((y : Int) ≤ 68719476736) = true := decide_eq_true (Classical.not_not.1 k3)
 have hb : decide (-68719476736 ≤ x ∧ x ≤ 68719476736 ∧ -68719476736 ≤ y ∧ y ≤ 68719476736) = true := decide_eq_true (by omega)
 rw [hb]
 clear hb
 go_enter Tryz.func59, Tryz.ntmps59
 go_wp2_with fail
 go_ret
 exact ⟨rfl, bl _ _⟩
end Nav
end
section
open Go.RowKit
namespace Nav
structure CX (w : World) (g : Nat) (t : TypeId) (cs : List Value) (wr : World) : Prop where
 blk : Blk wr g t cs
 keep : Below w.heap.size w wr
theorem CX.next {w wr w' : World} {g : Nat} {t : TypeId} {cs : List Value} (h : CX w g t cs wr) (hb : Below wr.heap.size wr w') : CX w g t cs w' := ⟨h.blk.below hb h.blk.lt, bt h.keep hb⟩
def cfL (r0 r1 r2 r3 m0 m1 m2 m3 m4 m5 n0 n1 n2 far stp gap need meas away num den tms spr : Int) : List Value := [.int .u32 r0, .int .i64 r1, .int .i64 r2, .int .i64 r3, .int .i64 m0, .int .i64 m1, .int .i64 m2, .int .i64 m3, .int .i64 m4, .int .i64 m5, .int .i64 n0, .int .i64 n1, .int .i64 n2, .int .i64 far, .int .i64 stp, .int .i64 gap, .int .i64 need, .int .i64 meas, .int .i64 away, .int .i64 num, .int .i64 den, .int .i64 tms, .int .i64 spr]
abbrev CK (w : World) (r0 r1 r2 r3 m0 m1 m2 m3 m4 m5 n0 n1 n2 far stp gap need meas away num den tms spr : Int) (wr : World) : Prop := CX w w.heap.size 32 [.int .u32 r0, .int .i64 r1, .int .i64 r2, .int .i64 r3, .int .i64 m0, .int .i64 m1, .int .i64 m2, .int .i64 m3, .int .i64 m4, .int .i64 m5, .int .i64 n0, .int .i64 n1, .int .i64 n2, .int .i64 far, .int .i64 stp, .int .i64 gap, .int .i64 need, .int .i64 meas, .int .i64 away, .int .i64 num, .int .i64 den, .int .i64 tms, .int .i64 spr] wr
theorem CX.s {w wr : World} {r0 r1 r2 r3 m0 m1 m2 m3 m4 m5 n0 n1 n2 far stp gap need meas away num den tms spr : Int} (h : CK w r0 r1 r2 r3 m0 m1 m2 m3 m4 m5 n0 n1 n2 far stp gap need meas away num den tms spr wr) : CK w r0 r1 r2 r3 m0 m1 m2 m3 m4 m5 n0 n1 n2 far stp gap need meas away num den tms spr wr ∧ wr.cell? ⟨w.heap.size, 0, none⟩ = some (.int .u32 r0) ∧ wr.cell? ⟨w.heap.size, 1, none⟩ = some (.int .i64 r1) ∧ wr.cell? ⟨w.heap.size, 2, none⟩ = some (.int .i64 r2) ∧ wr.cell? ⟨w.heap.size, 3, none⟩ = some (.int .i64 r3) ∧ wr.cell? ⟨w.heap.size, 4, none⟩ = some (.int .i64 m0) ∧ wr.cell? ⟨w.heap.size, 5, none⟩ = some (.int .i64 m1) ∧ wr.cell? ⟨w.heap.size, 6, none⟩ = some (.int .i64 m2) ∧ wr.cell? ⟨w.heap.size, 7, none⟩ = some (.int .i64 m3) ∧ wr.cell? ⟨w.heap.size, 8, none⟩ = some (.int .i64 m4) ∧ wr.cell? ⟨w.heap.size, 9, none⟩ = some (.int .i64 m5) ∧ wr.cell? ⟨w.heap.size, 10, none⟩ = some (.int .i64 n0) ∧ wr.cell? ⟨w.heap.size, 11, none⟩ = some (.int .i64 n1) ∧ wr.cell? ⟨w.heap.size, 12, none⟩ = some (.int .i64 n2) :=
 ⟨h, h.blk.cell 0, h.blk.cell 1, h.blk.cell 2, h.blk.cell 3, h.blk.cell 4, h.blk.cell 5, h.blk.cell 6, h.blk.cell 7, h.blk.cell 8, h.blk.cell 9, h.blk.cell 10, h.blk.cell 11, h.blk.cell 12⟩
theorem CX.step {w wr w' : World} {r0 r1 r2 r3 m0 m1 m2 m3 m4 m5 n0 n1 n2 far stp gap need meas away num den tms spr : Int} {R : Prop} (h : CK w r0 r1 r2 r3 m0 m1 m2 m3 m4 m5 n0 n1 n2 far stp gap need meas away num den tms spr wr ∧ R) (hb : Below wr.heap.size wr w') : CK w r0 r1 r2 r3 m0 m1 m2 m3 m4 m5 n0 n1 n2 far stp gap need meas away num den tms spr w' ∧ w'.cell? ⟨w.heap.size, 0, none⟩ = some (.int .u32 r0) ∧ w'.cell? ⟨w.heap.size, 1, none⟩ = some (.int .i64 r1) ∧ w'.cell? ⟨w.heap.size, 2, none⟩ = some (.int .i64 r2) ∧ w'.cell? ⟨w.heap.size, 3, none⟩ = some (.int .i64 r3) ∧ w'.cell? ⟨w.heap.size, 4, none⟩ = some (.int .i64 m0) ∧ w'.cell? ⟨w.heap.size, 5, none⟩ = some (.int .i64 m1) ∧ w'.cell? ⟨w.heap.size, 6, none⟩ = some (.int .i64 m2) ∧ w'.cell? ⟨w.heap.size, 7, none⟩ = some (.int .i64 m3) ∧ w'.cell? ⟨w.heap.size, 8, none⟩ = some (.int .i64 m4) ∧ w'.cell? ⟨w.heap.size, 9, none⟩ = some (.int .i64 m5) ∧ w'.cell? ⟨w.heap.size, 10, none⟩ = some (.int .i64 n0) ∧ w'.cell? ⟨w.heap.size, 11, none⟩ = some (.int .i64 n1) ∧ w'.cell? ⟨w.heap.size, 12, none⟩ = some (.int .i64 n2) := (h.1.next hb).s
set_option maxRecDepth 100000 in
set_option maxHeartbeats 4000000 in
theorem check_any (r0 r1 r2 r3 m0 m1 m2 m3 m4 m5 n0 n1 n2 far stp gap need meas away num den tms spr : Int) : ∃ k : Int, ∀ w, Calls Tryz.prog 14 #[.agg (cfL r0 r1 r2 r3 m0 m1 m2 m3 m4 m5 n0 n1 n2 far stp gap need meas away num den tms spr).toArray] w fun e w' => e = .returned (.int .i64 k) ∧ Below w.heap.size w w' := by
 obtain ⟨k1, h1⟩ := clc_any r0 r1 r2 r3
 obtain ⟨k2, h2⟩ := wac_any m0 m1 m2 m3 m4 m5
 obtain ⟨k3, h3⟩ := noc_any n0 n1 n2
 obtain ⟨b1, hb1⟩ : ∃ b, b = decide (far < 1 ∨ 15 < far ∨ stp < 64 ∨ 2048 < stp ∨ gap < 0 ∨ 65536 < gap ∨ need < 2 ∨ 64 < need) := ⟨_, rfl⟩
 obtain ⟨b2, hb2⟩ : ∃ b, b = decide (meas < 0 ∨ 3 < meas ∨ away < 0 ∨ 30 < away ∨ num < 1 ∨ 1048576 < num ∨ den < 1 ∨ 1048576 < den) := ⟨_, rfl⟩
 obtain ⟨b3, hb3⟩ : ∃ b, b = decide (tms < 1 ∨ 65536 < tms ∨ spr < 0 ∨ 85 < spr) := ⟨_, rfl⟩
 obtain ⟨k, hk⟩ : ∃ k : Int, k = if k1 ≠ 0 then k1 else if k2 ≠ 0 then k2 else if k3 ≠ 0 then k3 else if b1 = true then 2 else if b2 = true then 1 else if b3 = true then 1 else 0 := ⟨_, rfl⟩
 have HK := Lib.hid hk
 have HB1 := Lib.hid hb1
 have HB2 := Lib.hid hb2
 have HB3 := Lib.hid hb3
 clear hk hb1 hb2 hb3
 unfold cfL
 refine ⟨k, fun w => ?_⟩
 have HX : Hid (CK w r0 r1 r2 r3 m0 m1 m2 m3 m4 m5 n0 n1 n2 far stp gap need meas away num den tms spr (w.alloc (.cells [.int .u32 r0, .int .i64 r1, .int .i64 r2, .int .i64 r3, .int .i64 m0, .int .i64 m1, .int .i64 m2, .int .i64 m3, .int .i64 m4, .int .i64 m5, .int .i64 n0, .int .i64 n1, .int .i64 n2, .int .i64 far, .int .i64 stp, .int .i64 gap, .int .i64 need, .int .i64 meas, .int .i64 away, .int .i64 num, .int .i64 den, .int .i64 tms, .int .i64 spr].toArray 32))) := Lib.hid ⟨Blk.mk _ _ _, bl _ _⟩
 go_enter Tryz.func14, Tryz.ntmps14
 go_upto_region 1 with fail
 go_cut [14, 15] (fun s14 s15 wx => s14 = .agg #[.int .i64 k1, .int .i64 k2, .int .i64 k3] ∧ s15 = .int .i64 0 ∧ CK w r0 r1 r2 r3 m0 m1 m2 m3 m4 m5 n0 n1 n2 far stp gap need meas away num den tms spr wx)
 case first =>
  go_wp2_with fail
  go_region_held3 (fun w' => CK w r0 r1 r2 r3 m0 m1 m2 m3 m4 m5 n0 n1 n2 far stp gap need meas away num den tms spr w' ∧ w'.cell? ⟨w.heap.size, 0, none⟩ = some (.int .u32 r0) ∧ w'.cell? ⟨w.heap.size, 1, none⟩ = some (.int .i64 r1) ∧ w'.cell? ⟨w.heap.size, 2, none⟩ = some (.int .i64 r2) ∧ w'.cell? ⟨w.heap.size, 3, none⟩ = some (.int .i64 r3) ∧ w'.cell? ⟨w.heap.size, 4, none⟩ = some (.int .i64 m0) ∧ w'.cell? ⟨w.heap.size, 5, none⟩ = some (.int .i64 m1) ∧ w'.cell? ⟨w.heap.size, 6, none⟩ = some (.int .i64 m2) ∧ w'.cell? ⟨w.heap.size, 7, none⟩ = some (.int .i64 m3) ∧ w'.cell? ⟨w.heap.size, 8, none⟩ = some (.int .i64 m4) ∧ w'.cell? ⟨w.heap.size, 9, none⟩ = some (.int .i64 m5) ∧ w'.cell? ⟨w.heap.size, 10, none⟩ = some (.int .i64 n0) ∧ w'.cell? ⟨w.heap.size, 11, none⟩ = some (.int .i64 n1) ∧ w'.cell? ⟨w.heap.size, 12, none⟩ = some (.int .i64 n2))
   (first
    | exact (HX.out.next (below_drewN (Below.refl _ _) 1)).s
    | assumption
    | exact CX.step (by assumption) (by assumption))
   (first
    | (go_at_call 41; (with_reducible refine (h1 _).mono ?_); rintro e w' ⟨rfl, hb⟩)
    | (go_at_call 42; (with_reducible refine (h2 _).mono ?_); rintro e w' ⟨rfl, hb⟩)
    | (go_at_call 43; (with_reducible refine (h3 _).mono ?_); rintro e w' ⟨rfl, hb⟩))
  all_goals
   go_wp2_with fail
   go_meet
   exact ⟨rfl, rfl, And.left ‹CK w r0 r1 r2 r3 m0 m1 m2 m3 m4 m5 n0 n1 n2 far stp gap need meas away num den tms spr _ ∧ _›⟩
 obtain ⟨rfl, rfl, hx⟩ := hcut
 have HX2 := Lib.hid hx
 clear hx HX h1 h2 h3
 go_wp2_with fail
 go_loopw [15] (fun u wr => ∃ i : Nat, i ≤ 3 ∧ u = .int .i64 (i : Int) ∧ (0 < i → k1 = 0) ∧ (1 < i → k2 = 0) ∧ (2 < i → k3 = 0) ∧ CK w r0 r1 r2 r3 m0 m1 m2 m3 m4 m5 n0 n1 n2 far stp gap need meas away num den tms spr wr) (fun u _ => 3 - (intOf u).toNat)
 case atStart => exact ⟨0, by decide, rfl, fun h => absurd h (by decide), fun h => absurd h (by decide), fun h => absurd h (by decide), HX2.out⟩
 case round =>
  clear HX2
  obtain ⟨i, hi, rfl, i1, i2, i3, hx⟩ := hrel
  have HX := Lib.hid hx
  have I1 := Lib.hid i1
  have I2 := Lib.hid i2
  have I3 := Lib.hid i3
  clear hx i1 i2 i3
  have hc : i = 0 ∨ i = 1 ∨ i = 2 ∨ i = 3 := by omega
  rcases hc with rfl | rfl | rfl | rfl
  ·have ix : ∀ w, (Instr.index 131 (.agg #[.int .i64 k1, .int .i64 k2, .int .i64 k3]) (.int .i64 0)).run Tryz.prog w = .ok (.int .i64 k1) w := fun _ => by kernel_rfl
   by_cases hz : k1 = 0
   ·have z0 : (k1 != 0) = false := by rw [hz]; rfl
    have HZ := Lib.hid hz
    clear hz
    go_wp2_with fail
    exact ⟨⟨1, by decide, rfl, fun _ => HZ.out, fun h => absurd h (by decide), fun h => absurd h (by decide), HX.out⟩, by simp [intOf]⟩
   ·have z0 : (k1 != 0) = true := bne_iff_ne.2 hz
    have hk : k = k1 := by rw [HK.out, if_pos hz]
    have HKK := Lib.hid hk
    have HX2 := Lib.hid HX.out
    clear hz hk HX
    go_wp2_with fail
    go_ret
    rw [HKK.out]
    exact ⟨rfl, HX2.out.keep⟩
  ·have ix : ∀ w, (Instr.index 131 (.agg #[.int .i64 k1, .int .i64 k2, .int .i64 k3]) (.int .i64 1)).run Tryz.prog w = .ok (.int .i64 k2) w := fun _ => by kernel_rfl
   by_cases hz : k2 = 0
   ·have z0 : (k2 != 0) = false := by rw [hz]; rfl
    have HZ := Lib.hid hz
    clear hz
    go_wp2_with fail
    exact ⟨⟨2, by decide, rfl, fun _ => I1.out (by decide), fun _ => HZ.out, fun h => absurd h (by decide), HX.out⟩, by simp [intOf]⟩
   ·have z0 : (k2 != 0) = true := bne_iff_ne.2 hz
    have hk : k = k2 := by rw [HK.out, if_neg (fun h => h (I1.out (by decide))), if_pos hz]
    have HKK := Lib.hid hk
    have HX2 := Lib.hid HX.out
    clear hz hk HX
    go_wp2_with fail
    go_ret
    rw [HKK.out]
    exact ⟨rfl, HX2.out.keep⟩
  ·have ix : ∀ w, (Instr.index 131 (.agg #[.int .i64 k1, .int .i64 k2, .int .i64 k3]) (.int .i64 2)).run Tryz.prog w = .ok (.int .i64 k3) w := fun _ => by kernel_rfl
   by_cases hz : k3 = 0
   ·have z0 : (k3 != 0) = false := by rw [hz]; rfl
    have HZ := Lib.hid hz
    clear hz
    go_wp2_with fail
    exact ⟨⟨3, by decide, rfl, fun _ => I1.out (by decide), fun _ => I2.out (by decide), fun _ => HZ.out, HX.out⟩, by simp [intOf]⟩
   ·have z0 : (k3 != 0) = true := bne_iff_ne.2 hz
    have hk : k = k3 := by rw [HK.out, if_neg (fun h => h (I1.out (by decide))), if_neg (fun h => h (I2.out (by decide))), if_pos hz]
    have HKK := Lib.hid hk
    have HX2 := Lib.hid HX.out
    clear hz hk HX
    go_wp2_with fail
    go_ret
    rw [HKK.out]
    exact ⟨rfl, HX2.out.keep⟩
  ·have z3 : Hid (k = if b1 = true then 2 else if b2 = true then 1 else if b3 = true then 1 else 0) := Lib.hid (by rw [HK.out, if_neg (fun h => h (I1.out (by decide))), if_neg (fun h => h (I2.out (by decide))), if_neg (fun h => h (I3.out (by decide)))])
   clear HK I1 I2 I3 hi
   go_upto_region 7 with fail
   go_cut [22] (fun s wx => s = .bool b1 ∧ CK w r0 r1 r2 r3 m0 m1 m2 m3 m4 m5 n0 n1 n2 far stp gap need meas away num den tms spr wx)
   case first =>
    have c13 := HX.out.blk.cell 13
    have c14 := HX.out.blk.cell 14
    have c15 := HX.out.blk.cell 15
    have c16 := HX.out.blk.cell 16
    by_cases q0 : (far : Int) < 1
    ·have d0 : decide ((far : Int) < 1) = true := decide_eq_true q0
     have hbb : b1 = true := by rw [HB1.out]; exact decide_eq_true (by omega)
     go_wp2_with fail
     go_meet
     exact ⟨by rw [hbb], HX.out⟩
    have d0 : decide ((far : Int) < 1) = false := decide_eq_false q0
    by_cases q1 : (15 : Int) < far
    ·have d1 : decide ((15 : Int) < far) = true := decide_eq_true q1
     have hbb : b1 = true := by rw [HB1.out]; exact decide_eq_true (by omega)
     go_wp2_with fail
     go_meet
     exact ⟨by rw [hbb], HX.out⟩
    have d1 : decide ((15 : Int) < far) = false := decide_eq_false q1
    by_cases q2 : (stp : Int) < 64
    ·have d2 : decide ((stp : Int) < 64) = true := decide_eq_true q2
     have hbb : b1 = true := by rw [HB1.out]; exact decide_eq_true (by omega)
     go_wp2_with fail
     go_meet
     exact ⟨by rw [hbb], HX.out⟩
    have d2 : decide ((stp : Int) < 64) = false := decide_eq_false q2
    by_cases q3 : (2048 : Int) < stp
    ·have d3 : decide ((2048 : Int) < stp) = true := decide_eq_true q3
     have hbb : b1 = true := by rw [HB1.out]; exact decide_eq_true (by omega)
     go_wp2_with fail
     go_meet
     exact ⟨by rw [hbb], HX.out⟩
    have d3 : decide ((2048 : Int) < stp) = false := decide_eq_false q3
    by_cases q4 : (gap : Int) < 0
    ·have d4 : decide ((gap : Int) < 0) = true := decide_eq_true q4
     have hbb : b1 = true := by rw [HB1.out]; exact decide_eq_true (by omega)
     go_wp2_with fail
     go_meet
     exact ⟨by rw [hbb], HX.out⟩
    have d4 : decide ((gap : Int) < 0) = false := decide_eq_false q4
    by_cases q5 : (65536 : Int) < gap
    ·have d5 : decide ((65536 : Int) < gap) = true := decide_eq_true q5
     have hbb : b1 = true := by rw [HB1.out]; exact decide_eq_true (by omega)
     go_wp2_with fail
     go_meet
     exact ⟨by rw [hbb], HX.out⟩
    have d5 : decide ((65536 : Int) < gap) = false := decide_eq_false q5
    by_cases q6 : (need : Int) < 2
    ·have d6 : decide ((need : Int) < 2) = true := decide_eq_true q6
     have hbb : b1 = true := by rw [HB1.out]; exact decide_eq_true (by omega)
     go_wp2_with fail
     go_meet
     exact ⟨by rw [hbb], HX.out⟩
    have d6 : decide ((need : Int) < 2) = false := decide_eq_false q6
    by_cases q7 : (64 : Int) < need
    ·have d7 : decide ((64 : Int) < need) = true := decide_eq_true q7
     have hbb : b1 = true := by rw [HB1.out]; exact decide_eq_true (by omega)
     go_wp2_with fail
     go_meet
     exact ⟨by rw [hbb], HX.out⟩
    have d7 : decide ((64 : Int) < need) = false := decide_eq_false q7
    have hbb : b1 = false := by rw [HB1.out]; exact decide_eq_false (by omega)
    go_wp2_with fail
    go_meet
    exact ⟨by rw [hbb], HX.out⟩
   obtain ⟨rfl, hx⟩ := hcut
   have HX7 := Lib.hid hx
   clear hx HX
   cases b1
   case true =>
    go_wp2_with fail
    go_ret
    rw [z3.out]
    exact ⟨by simp, HX7.out.keep⟩
   go_upto_region 9 with fail
   go_cut [61] (fun s wx => s = .bool b2 ∧ CK w r0 r1 r2 r3 m0 m1 m2 m3 m4 m5 n0 n1 n2 far stp gap need meas away num den tms spr wx)
   case first =>
    have c17 := HX7.out.blk.cell 17
    have c18 := HX7.out.blk.cell 18
    have c19 := HX7.out.blk.cell 19
    have c20 := HX7.out.blk.cell 20
    by_cases q0 : (meas : Int) < 0
    ·have d0 : decide ((meas : Int) < 0) = true := decide_eq_true q0
     have hbb : b2 = true := by rw [HB2.out]; exact decide_eq_true (by omega)
     go_wp2_with fail
     go_meet
     exact ⟨by rw [hbb], HX7.out⟩
    have d0 : decide ((meas : Int) < 0) = false := decide_eq_false q0
    by_cases q1 : (3 : Int) < meas
    ·have d1 : decide ((3 : Int) < meas) = true := decide_eq_true q1
     have hbb : b2 = true := by rw [HB2.out]; exact decide_eq_true (by omega)
     go_wp2_with fail
     go_meet
     exact ⟨by rw [hbb], HX7.out⟩
    have d1 : decide ((3 : Int) < meas) = false := decide_eq_false q1
    by_cases q2 : (away : Int) < 0
    ·have d2 : decide ((away : Int) < 0) = true := decide_eq_true q2
     have hbb : b2 = true := by rw [HB2.out]; exact decide_eq_true (by omega)
     go_wp2_with fail
     go_meet
     exact ⟨by rw [hbb], HX7.out⟩
    have d2 : decide ((away : Int) < 0) = false := decide_eq_false q2
    by_cases q3 : (30 : Int) < away
    ·have d3 : decide ((30 : Int) < away) = true := decide_eq_true q3
     have hbb : b2 = true := by rw [HB2.out]; exact decide_eq_true (by omega)
     go_wp2_with fail
     go_meet
     exact ⟨by rw [hbb], HX7.out⟩
    have d3 : decide ((30 : Int) < away) = false := decide_eq_false q3
    by_cases q4 : (num : Int) < 1
    ·have d4 : decide ((num : Int) < 1) = true := decide_eq_true q4
     have hbb : b2 = true := by rw [HB2.out]; exact decide_eq_true (by omega)
     go_wp2_with fail
     go_meet
     exact ⟨by rw [hbb], HX7.out⟩
    have d4 : decide ((num : Int) < 1) = false := decide_eq_false q4
    by_cases q5 : (1048576 : Int) < num
    ·have d5 : decide ((1048576 : Int) < num) = true := decide_eq_true q5
     have hbb : b2 = true := by rw [HB2.out]; exact decide_eq_true (by omega)
     go_wp2_with fail
     go_meet
     exact ⟨by rw [hbb], HX7.out⟩
    have d5 : decide ((1048576 : Int) < num) = false := decide_eq_false q5
    by_cases q6 : (den : Int) < 1
    ·have d6 : decide ((den : Int) < 1) = true := decide_eq_true q6
     have hbb : b2 = true := by rw [HB2.out]; exact decide_eq_true (by omega)
     go_wp2_with fail
     go_meet
     exact ⟨by rw [hbb], HX7.out⟩
    have d6 : decide ((den : Int) < 1) = false := decide_eq_false q6
    by_cases q7 : (1048576 : Int) < den
    ·have d7 : decide ((1048576 : Int) < den) = true := decide_eq_true q7
     have hbb : b2 = true := by rw [HB2.out]; exact decide_eq_true (by omega)
     go_wp2_with fail
     go_meet
     exact ⟨by rw [hbb], HX7.out⟩
    have d7 : decide ((1048576 : Int) < den) = false := decide_eq_false q7
    have hbb : b2 = false := by rw [HB2.out]; exact decide_eq_false (by omega)
    go_wp2_with fail
    go_meet
    exact ⟨by rw [hbb], HX7.out⟩
   obtain ⟨rfl, hx⟩ := hcut
   have HX9 := Lib.hid hx
   clear hx HX7
   cases b2
   case true =>
    go_wp2_with fail
    go_ret
    rw [z3.out]
    exact ⟨by simp, HX9.out.keep⟩
   go_upto_region 11 with fail
   go_cut [100] (fun s wx => s = .bool b3 ∧ CK w r0 r1 r2 r3 m0 m1 m2 m3 m4 m5 n0 n1 n2 far stp gap need meas away num den tms spr wx)
   case first =>
    have c21 := HX9.out.blk.cell 21
    have c22 := HX9.out.blk.cell 22
    by_cases q0 : (tms : Int) < 1
    ·have d0 : decide ((tms : Int) < 1) = true := decide_eq_true q0
     have hbb : b3 = true := by rw [HB3.out]; exact decide_eq_true (by omega)
     go_wp2_with fail
     go_meet
     exact ⟨by rw [hbb], HX9.out⟩
    have d0 : decide ((tms : Int) < 1) = false := decide_eq_false q0
    by_cases q1 : (65536 : Int) < tms
    ·have d1 : decide ((65536 : Int) < tms) = true := decide_eq_true q1
     have hbb : b3 = true := by rw [HB3.out]; exact decide_eq_true (by omega)
     go_wp2_with fail
     go_meet
     exact ⟨by rw [hbb], HX9.out⟩
    have d1 : decide ((65536 : Int) < tms) = false := decide_eq_false q1
    by_cases q2 : (spr : Int) < 0
    ·have d2 : decide ((spr : Int) < 0) = true := decide_eq_true q2
     have hbb : b3 = true := by rw [HB3.out]; exact decide_eq_true (by omega)
     go_wp2_with fail
     go_meet
     exact ⟨by rw [hbb], HX9.out⟩
    have d2 : decide ((spr : Int) < 0) = false := decide_eq_false q2
    by_cases q3 : (85 : Int) < spr
    ·have d3 : decide ((85 : Int) < spr) = true := decide_eq_true q3
     have hbb : b3 = true := by rw [HB3.out]; exact decide_eq_true (by omega)
     go_wp2_with fail
     go_meet
     exact ⟨by rw [hbb], HX9.out⟩
    have d3 : decide ((85 : Int) < spr) = false := decide_eq_false q3
    have hbb : b3 = false := by rw [HB3.out]; exact decide_eq_false (by omega)
    go_wp2_with fail
    go_meet
    exact ⟨by rw [hbb], HX9.out⟩
   obtain ⟨rfl, hx⟩ := hcut
   have HX11 := Lib.hid hx
   clear hx HX9
   cases b3
   case true =>
    go_wp2_with fail
    go_ret
    rw [z3.out]
    exact ⟨by simp, HX11.out.keep⟩
   go_wp2_with fail
   go_ret
   rw [z3.out]
   exact ⟨by simp, HX11.out.keep⟩
end Nav
end
section
open Go.RowKit
namespace Nav
def Cells (n : Nat) (cs : List Value) : Prop := cs.length = n ∧ ∀ u ∈ cs, u.oneCell' = true
theorem Cells.all {n : Nat} {cs : List Value} (h : Cells n cs) : cs.toArray.all (·.oneCell') = true := by simpa using h.2
theorem info_p : (Tryz.prog.info? 108).map (·.size) = some 197 := by kernel_rfl
theorem info_l : (Tryz.prog.info? 103).map (·.size) = some 20 := by kernel_rfl
theorem info_w : (Tryz.prog.info? 111).map (·.size) = some 40 := by kernel_rfl
def pc (c : Int) : List Value := List.replicate 196 (Value.int .i64 0) ++ [.int .i64 c]
theorem pc_cells (c : Int) : Cells 197 (pc c) := by
 refine ⟨by unfold pc; rw [List.length_append, List.length_replicate]; rfl, fun u hu => ?_⟩
 unfold pc at hu
 rw [List.mem_append, List.mem_replicate, List.mem_singleton] at hu
 rcases hu with ⟨_, rfl⟩ | rfl <;> rfl
noncomputable def zP : List Value := match (Tryz.prog.info? 108).bind (·.zero) with
 | some (.agg a) => a.toList
 | _ => []
set_option maxRecDepth 1000000 in
set_option maxHeartbeats 1000000 in
theorem pnew_any (g : Int) (w : World) : Calls Tryz.prog 55 #[.int .i64 g] w fun e w' => (∃ c, e = .returned (.agg (pc c).toArray)) ∧ Below w.heap.size w w' := by
 have hz : ∀ w, (zeroValue 108).run Tryz.prog w = .ok (.agg (pc 0).toArray) w := fun _ => by kernel_rfl
 obtain ⟨c, hc⟩ : ∃ c, c = if g < 0 then 0 else if 1048576 < g then 1048576 else g := ⟨_, rfl⟩
 have hm1 : (g < 0 ∧ max g 0 = 0) ∨ (0 ≤ g ∧ max g 0 = g) := by omega
 have HB := Lib.hid (Blk.mk w 108 (pc 0))
 have hcase : (g < 0 ∧ c = 0) ∨ (0 ≤ g ∧ 1048576 < g ∧ c = 1048576) ∨ (0 ≤ g ∧ g ≤ 1048576 ∧ c = g) := by omega
 clear hc hm1
 rcases hcase with ⟨h1, rfl⟩ | ⟨h1, h2, rfl⟩ | ⟨h1, h2, rfl⟩
 ·go_enter Tryz.func55, Tryz.ntmps55
  go_wp2_with (refine wpList_store_row rfl 108 _ _ rfl w.heap.size (pc 0).toArray rfl (by kernel_rfl) _ _ HB.out (by rw [info_p, List.size_toArray, (pc_cells 0).1]) rfl (pc_cells 0).all ?_)
  refine bodyPost_ret (results_cell_row rfl _ _ w.heap.size 108 _ (0, 0) _ rfl (HB.out.row (pc 0)) Tryz.underlying108 rfl (by rw [info_p, List.size_toArray, (pc_cells 0).1])) rfl ?_
  exact ⟨⟨0, rfl⟩, Below.row (bl w _) (Nat.le_refl _) _⟩
 ·go_enter Tryz.func55, Tryz.ntmps55
  go_wp2_with (refine wpList_store_row rfl 108 _ _ rfl w.heap.size (pc 1048576).toArray rfl (by kernel_rfl) _ _ HB.out (by rw [info_p, List.size_toArray, (pc_cells 1048576).1]) (by rw [List.size_toArray, (pc_cells 0).1, List.size_toArray, (pc_cells 1048576).1]) (pc_cells 1048576).all ?_)
  refine bodyPost_ret (results_cell_row rfl _ _ w.heap.size 108 _ (0, 0) _ rfl (HB.out.row (pc 1048576)) Tryz.underlying108 rfl (by rw [info_p, List.size_toArray, (pc_cells 1048576).1])) rfl ?_
  exact ⟨⟨1048576, rfl⟩, Below.row (bl w _) (Nat.le_refl _) _⟩
 ·go_enter Tryz.func55, Tryz.ntmps55
  go_wp2_with (refine wpList_store_row rfl 108 _ _ rfl w.heap.size (pc c).toArray rfl (by kernel_rfl) _ _ HB.out (by rw [info_p, List.size_toArray, (pc_cells c).1]) (by rw [List.size_toArray, (pc_cells 0).1, List.size_toArray, (pc_cells c).1]) (pc_cells c).all ?_)
  refine bodyPost_ret (results_cell_row rfl _ _ w.heap.size 108 _ (0, 0) _ rfl (HB.out.row (pc c)) Tryz.underlying108 rfl (by rw [info_p, List.size_toArray, (pc_cells c).1])) rfl ?_
  exact ⟨⟨c, rfl⟩, Below.row (bl w _) (Nat.le_refl _) _⟩
noncomputable def zL : List Value := match (Tryz.prog.info? 103).bind (·.zero) with
 | some (.agg a) => a.toList
 | _ => []
noncomputable def zW : List Value := match (Tryz.prog.info? 111).bind (·.zero) with
 | some (.agg a) => a.toList
 | _ => []
theorem zL_cells : Cells 20 zL := by
 have h1 : zL.length = 20 := by kernel_rfl
 have h2 : zL.all (·.oneCell') = true := by kernel_rfl
 exact ⟨h1, fun u hu => List.all_eq_true.1 h2 u hu⟩
theorem zW_cells : Cells 40 zW := by
 have h1 : zW.length = 40 := by kernel_rfl
 have h2 : zW.all (·.oneCell') = true := by kernel_rfl
 exact ⟨h1, fun u hu => List.all_eq_true.1 h2 u hu⟩
theorem app_cells {n m : Nat} {a b : List Value} (h : Cells n a) (k : Cells m b) : Cells (n + m) (a ++ b) :=
 ⟨by rw [List.length_append, h.1, k.1], fun u hu => (List.mem_append.1 hu).elim (h.2 u) (k.2 u)⟩
theorem drop_cells {n : Nat} {a : List Value} (h : Cells n a) (k : Nat) : Cells (n - k) (a.drop k) :=
 ⟨by rw [List.length_drop, h.1], fun u hu => h.2 u (List.mem_of_mem_drop hu)⟩
def rulesV (a b c d : Int) : List Value := [.int .u32 a, .int .i64 b, .int .i64 c, .int .i64 d]
def marksV (a b c d e f : Int) : List Value := [.int .i64 a, .int .i64 b, .int .i64 c, .int .i64 d, .int .i64 e, .int .i64 f]
theorem rules_cells (a b c d : Int) : Cells 4 (rulesV a b c d) := by
 refine ⟨rfl, fun u hu => ?_⟩
 simp only [rulesV, List.mem_cons, List.not_mem_nil, or_false] at hu
 rcases hu with rfl | rfl | rfl | rfl <;> rfl
theorem marks_cells (a b c d e f : Int) : Cells 6 (marksV a b c d e f) := by
 refine ⟨rfl, fun u hu => ?_⟩
 simp only [marksV, List.mem_cons, List.not_mem_nil, or_false] at hu
 rcases hu with rfl | rfl | rfl | rfl | rfl | rfl <;> rfl
set_option maxRecDepth 1000000 in
set_option maxHeartbeats 1000000 in
theorem clnew_any (a b c d : Int) (w : World) : Calls Tryz.prog 56 #[.agg (rulesV a b c d).toArray] w fun e w' => (∃ cs k, e = .returned (.tuple #[.agg cs.toArray, k]) ∧ Cells 20 cs) ∧ Below w.heap.size w w' := by
 obtain ⟨k, hk⟩ := clc_any a b c d
 have hz : ∀ w, (zeroValue 103).run Tryz.prog w = .ok (.agg zL.toArray) w := fun _ => by kernel_rfl
 obtain ⟨cs, hcs⟩ : ∃ cs, cs = rulesV a b c d ++ zL.drop 4 := ⟨_, rfl⟩
 have HCS := Lib.hid hcs
 have HC1 : Hid (Cells 20 cs) := Lib.hid (by rw [hcs]; exact app_cells (rules_cells a b c d) (drop_cells zL_cells 4))
 have hbr := Blk.mk w 26 (rulesV a b c d)
 have hbl := Blk.mk (w.alloc (.cells (rulesV a b c d).toArray 26)) 103 zL
 have HBR := Lib.hid (hbr.alloc (.cells zL.toArray 103))
 rw [World.size_alloc] at hbl
 have HBL := Lib.hid hbl
 have HK : Hid (Below w.heap.size w ((w.alloc (.cells (rulesV a b c d).toArray 26)).alloc (.cells zL.toArray 103))) := Lib.hid (bt (bl _ _) (bl _ _))
 clear hcs hbr hbl
 have c0 := HBR.out.cell 0
 have c1 := HBR.out.cell 1
 have c2 := HBR.out.cell 2
 have c3 := HBR.out.cell 3
 unfold rulesV at *
 go_enter Tryz.func56, Tryz.ntmps56
 go_wp2_with fail
 refine (hk _).mono ?_
 rintro e w2 ⟨rfl, hb⟩
 have HBR2 := Lib.hid (HBR.out.below hb HBR.out.lt)
 have HBL2 := Lib.hid (HBL.out.below hb HBL.out.lt)
 have HK2 := Lib.hid (bt HK.out hb)
 clear hb c0 c1 c2 c3 HK HBL HBR hk
 have c0 := HBR2.out.cell 0
 have c1 := HBR2.out.cell 1
 have c2 := HBR2.out.cell 2
 have c3 := HBR2.out.cell 3
 by_cases hk0 : k = 0
 ·subst hk0
  go_wp2_with (refine wpList_store_row rfl 103 _ _ rfl (w.heap.size + 1) cs.toArray rfl (by rw [HCS.out]; kernel_rfl) _ _ HBL2.out (by rw [info_l, List.size_toArray, HC1.out.1]) (by rw [List.size_toArray, zL_cells.1, List.size_toArray, HC1.out.1]) HC1.out.all ?_)
  refine bodyPost_ret (results_cell_tmp_row rfl _ _ (w.heap.size + 1) 103 _ (0, 0) _ rfl (HBL2.out.row _) Tryz.underlying103 rfl (by rw [info_l, List.size_toArray, HC1.out.1])) rfl ?_
  exact ⟨⟨_, _, rfl, HC1.out⟩, Below.row HK2.out (by omega) _⟩
 ·have k0 : (k != 0) = true := bne_iff_ne.2 hk0
  clear hk0
  go_wp2_with (refine wpList_store_row rfl 103 _ _ rfl (w.heap.size + 1) zL.toArray rfl (by kernel_rfl) _ _ HBL2.out (by rw [info_l, List.size_toArray, zL_cells.1]) rfl zL_cells.all ?_)
  refine bodyPost_ret (results_cell_tmp_row rfl _ _ (w.heap.size + 1) 103 _ (0, 0) _ rfl (HBL2.out.row _) Tryz.underlying103 rfl (by rw [info_l, List.size_toArray, zL_cells.1])) rfl ?_
  exact ⟨⟨_, _, rfl, zL_cells⟩, Below.row HK2.out (by omega) _⟩
set_option maxRecDepth 1000000 in
set_option maxHeartbeats 1000000 in
theorem wanew_any (a b c d e f : Int) (w : World) : Calls Tryz.prog 57 #[.agg (marksV a b c d e f).toArray] w fun e w' => (∃ cs k, e = .returned (.tuple #[.agg cs.toArray, k]) ∧ Cells 40 cs) ∧ Below w.heap.size w w' := by
 obtain ⟨k, hk⟩ := wac_any a b c d e f
 have hz : ∀ w, (zeroValue 111).run Tryz.prog w = .ok (.agg zW.toArray) w := fun _ => by kernel_rfl
 obtain ⟨cs, hcs⟩ : ∃ cs, cs = marksV a b c d e f ++ zW.drop 6 := ⟨_, rfl⟩
 have HCS := Lib.hid hcs
 have HC1 : Hid (Cells 40 cs) := Lib.hid (by rw [hcs]; exact app_cells (marks_cells a b c d e f) (drop_cells zW_cells 6))
 have hbr := Blk.mk w 28 (marksV a b c d e f)
 have hbl := Blk.mk (w.alloc (.cells (marksV a b c d e f).toArray 28)) 111 zW
 have HBR := Lib.hid (hbr.alloc (.cells zW.toArray 111))
 rw [World.size_alloc] at hbl
 have HBL := Lib.hid hbl
 have HK : Hid (Below w.heap.size w ((w.alloc (.cells (marksV a b c d e f).toArray 28)).alloc (.cells zW.toArray 111))) := Lib.hid (bt (bl _ _) (bl _ _))
 clear hcs hbr hbl
 have c0 := HBR.out.cell 0
 have c1 := HBR.out.cell 1
 have c2 := HBR.out.cell 2
 have c3 := HBR.out.cell 3
 have c4 := HBR.out.cell 4
 have c5 := HBR.out.cell 5
 unfold marksV at *
 go_enter Tryz.func57, Tryz.ntmps57
 go_wp2_with fail
 refine (hk _).mono ?_
 rintro e w2 ⟨rfl, hb⟩
 have HBR2 := Lib.hid (HBR.out.below hb HBR.out.lt)
 have HBL2 := Lib.hid (HBL.out.below hb HBL.out.lt)
 have HK2 := Lib.hid (bt HK.out hb)
 clear hb c0 c1 c2 c3 c4 c5 HK HBL HBR hk
 have c0 := HBR2.out.cell 0
 have c1 := HBR2.out.cell 1
 have c2 := HBR2.out.cell 2
 have c3 := HBR2.out.cell 3
 have c4 := HBR2.out.cell 4
 have c5 := HBR2.out.cell 5
 by_cases hk0 : k = 0
 ·subst hk0
  go_wp2_with (refine wpList_store_row rfl 111 _ _ rfl (w.heap.size + 1) cs.toArray rfl (by rw [HCS.out]; kernel_rfl) _ _ HBL2.out (by rw [info_w, List.size_toArray, HC1.out.1]) (by rw [List.size_toArray, zW_cells.1, List.size_toArray, HC1.out.1]) HC1.out.all ?_)
  refine bodyPost_ret (results_cell_tmp_row rfl _ _ (w.heap.size + 1) 111 _ (0, 0) _ rfl (HBL2.out.row _) Tryz.underlying111 rfl (by rw [info_w, List.size_toArray, HC1.out.1])) rfl ?_
  exact ⟨⟨_, _, rfl, HC1.out⟩, Below.row HK2.out (by omega) _⟩
 ·have k0 : (k != 0) = true := bne_iff_ne.2 hk0
  clear hk0
  go_wp2_with (refine wpList_store_row rfl 111 _ _ rfl (w.heap.size + 1) zW.toArray rfl (by kernel_rfl) _ _ HBL2.out (by rw [info_w, List.size_toArray, zW_cells.1]) rfl zW_cells.all ?_)
  refine bodyPost_ret (results_cell_tmp_row rfl _ _ (w.heap.size + 1) 111 _ (0, 0) _ rfl (HBL2.out.row _) Tryz.underlying111 rfl (by rw [info_w, List.size_toArray, zW_cells.1])) rfl ?_
  exact ⟨⟨_, _, rfl, zW_cells⟩, Below.row HK2.out (by omega) _⟩
end Nav
end
section
open Go.RowKit
namespace Cac
open Cht (getC get_any GotGet open_any GotO DirOk zeroC zeroC_one zeroD infoChart all_one G0)
open Txt (bv bv_one)
open Nav (Cells)
structure CB (w : World) (g : Nat) (wr : World) : Prop where
 ex : ∃ l : List Value, l.length = 8301 ∧ Blk wr g 178 l
 keep : Below w.heap.size w wr
 ge : w.heap.size ≤ g
theorem CB.next {w wr w' : World} {g : Nat} (h : CB w g wr) (hb : Below wr.heap.size wr w') : CB w g w' := ⟨by obtain ⟨l, h1, h2⟩ := h.ex; exact ⟨l, h1, h2.next hb⟩, bt h.keep hb, h.ge⟩
theorem CB.put {w wr : World} {g : Nat} (h : CB w g wr) (i : Nat) (u : Value) : CB w g (wr.setCell ⟨g, i, none⟩ u) :=
 ⟨by obtain ⟨l, h1, h2⟩ := h.ex; exact ⟨_, by rw [List.length_set]; exact h1, h2.put i u⟩, h.keep.setCell h.ge _, h.ge⟩
theorem CB.puts {w : World} {g : Nat} : ∀ (vs : List Value) (o : Nat) (wr : World), CB w g wr → CB w g (wr.setCells g o vs)
 | [], _, _, h => h
 | v :: r, o, wr, h => CB.puts r (o + 1) _ (h.put o v)
theorem CB.cell {w wr : World} {g : Nat} (h : CB w g wr) {i : Nat} (hi : i < 8301) : (∃ u, wr.cell? ⟨g, i, none⟩ = some u) ∧ wr.frozen? ⟨g, i, none⟩ = false := by
 obtain ⟨l, h1, h2⟩ := h.ex
 exact ⟨⟨l[i], by rw [h2.cell, List.getElem?_eq_getElem]⟩, h2.free i⟩
def GotCa (w : World) (L : List UInt8) (e : Ending) (w' : World) : Prop := (∃ p : Option Addr, e = .returned (.tuple #[.pointer p, .int .i64 (getC L)])) ∧ Below w.heap.size w w'
set_option maxRecDepth 100000 in
set_option maxHeartbeats 2000000 in
theorem canew_any (A : Option Addr) (L : List UInt8) (n cap lo hi : Nat) (w : World) (h : RdL w lo hi A (L.map bv)) (hhi : hi ≤ w.heap.size) (hn : L.length = n) (hl : n ≤ 100000) (hcap : n ≤ cap) (hA : A = none → n = 0 ∧ cap = 0) :
  Calls Tryz.prog 58 #[.slice A n cap, .int .i64 8] w (GotCa w L) := by
 obtain ⟨i0, hi', hz0, hz1, hz2⟩ := info_parts Txt.infoByte
 have hg := get_any A L n cap lo hi w h hhi hn hl hcap
 obtain ⟨gc, hgc⟩ : ∃ x, x = getC L := ⟨_, rfl⟩
 unfold GotGet at hg
 rw [← hgc] at hg
 have HGC := Lib.hid hgc
 have HR := Lib.hid h
 have HN := Lib.hid hn
 clear h hn hgc
 go_enter Tryz.func58, Tryz.ntmps58
 go_upto_region 3 with fail
 go_cut [7] (fun s7 wx => s7 = .int .i64 gc ∧ Below w.heap.size w wx)
 case first =>
  go_wp2_with fail
  refine hg.mono ?_
  rintro e w2 ⟨⟨ch, rfl, hch, hc1⟩, hb2⟩
  have HD0 := Lib.hid (Blk.mk w2 44 zeroC)
  have HF := Lib.hid (Below.row (bt hb2 (bl w2 (.cells zeroC.toArray 44))) (g := w2.heap.size) hb2.size ch.toArray)
  have HCH := Lib.hid hch
  have HC1 := Lib.hid hc1
  clear hg hb2 hch hc1
  go_wp2_with (refine wpList_store_row rfl 44 _ _ rfl w2.heap.size ch.toArray rfl rfl _ _ HD0.out (by rw [infoChart, List.size_toArray, HCH.out]) (by rw [List.size_toArray, List.size_toArray, HCH.out]; rfl) (all_one HC1.out) ?_)
  go_meet
  exact ⟨rfl, HF.out⟩
 obtain ⟨rfl, hb⟩ := hcut
 have HB := Lib.hid hb
 have HR1 := Lib.hid (HR.out.next hb)
 clear hg hb
 by_cases h0 : gc = 0
 ·subst h0
  have HB2 := Lib.hid (bt HB.out (bl wc (.cells #[] 5)))
  have HR2 := Lib.hid (HR1.out.next (bl wc (.cells #[] 5)))
  have HO := Lib.hid (own_new wc 5 1)
  have hsz := HB.out.size
  go_upto_region 6 with fail
  go_cut [8] (fun s8 wx => ∃ g A5 cap5, s8 = .pointer (some ⟨g, 0, none⟩) ∧ CB w g wx ∧ wx.cell? ⟨g, 0, none⟩ = some (.slice A5 n cap5) ∧ (∃ l h, h ≤ wx.heap.size ∧ RdL wx l h A5 (L.map bv)) ∧ n ≤ cap5)
  case first =>
   go_wp2_with (at_builtin; refine wpList_append_mine rfl (.tmp 24) (.tmp 25) 35 rfl wc.heap.size 5 i0 (.int .u8 0) 1 1 Tryz.underlying35 hi' hz0 hz1 hz2 rfl (by decide) _ 0 [] rfl HO.out A n cap (L.map bv) rfl (by rw [List.length_map, HN.out]; simp) hA HR2.out.news (bv_one _) (by unfold maxLen; omega) (by omega) (by simp) ?_; intro v5 w5 hown5 hgrow5 hwhose5; rw [Nat.zero_add, List.nil_append] at hown5; obtain ⟨A5, cap5, rfl, hrd5, hnc5, hcm5, hA5⟩ := own_rd hown5; have HG5 := Lib.hid hgrow5; have HR5 := Lib.hid hrd5; clear hgrow5 hwhose5 hown5 hrd5)
   have hb5 : Below w.heap.size w w5 := HB2.out.grown HG5.out HB2.out.size (fun k e => by have e' : some wc.heap.size = some k := e; injection e' with e'; omega)
   have hz178 : (Tryz.zeroCells178).size = 8301 := by kernel_rfl
   obtain ⟨cl, hcl⟩ : ∃ l : List Value, l.toArray = (Tryz.zeroCells178.setIfInBounds 0 (.slice A5 n cap5)).setIfInBounds 8297 (.int .i64 8) := ⟨_, rfl⟩
   have hll : cl.length = 8301 := by rw [← List.size_toArray, hcl, Array.size_setIfInBounds, Array.size_setIfInBounds, hz178]
   rw [← hcl]
   have hb6 := Blk.mk w5 178 cl
   have hc0 : cl[0]? = some (.slice A5 n cap5) := by
    rw [← List.getElem?_toArray, hcl, Array.getElem?_setIfInBounds_ne (by decide), Array.getElem?_setIfInBounds_self_of_lt (by rw [hz178]; decide)]
   go_meet
   exact ⟨w5.heap.size, A5, cap5, rfl, ⟨⟨cl, hll, hb6⟩, hb5.alloc hb5.size _, hb5.size⟩, (hb6.cell 0).trans hc0, ⟨_, _, by simp, HR5.out.alloc _⟩, hnc5⟩
  obtain ⟨g, A5, cap5, rfl, hc, hc0, ⟨lo5, hi5, hh5, hr5⟩, hnc5⟩ := hcut
  have hop := open_any A5 L n cap5 _ _ _ hr5 hh5 HN.out hl hnc5
  have HC6 := Lib.hid hc
  obtain ⟨wp, rfl⟩ : ∃ wp : World, wp = wc := ⟨_, rfl⟩
  clear hc HB2 HR2 HO HR1 HB hsz hr5 hh5
  go_upto_region 7 with fail
  go_cut [8] (fun s8 wx => s8 = .pointer (some ⟨g, 0, none⟩) ∧ CB w g wx)
  case first =>
   go_wp2_with fail
   refine hop.mono ?_
   rintro e w7 ⟨D, rfl, ⟨hDl, hD1, _⟩, hb7⟩
   have HC7 := Lib.hid (HC6.out.next hb7)
   have HDL := Lib.hid hDl
   have HD1 := Lib.hid hD1
   clear hop hb7 hDl hD1 HC6
   go_wp2_with (refine wpList_store_mid rfl 94 _ _ rfl g 1 D.toArray rfl rfl (fun j hj => by rw [List.size_toArray, HDL.out] at hj; obtain ⟨⟨u, hu⟩, hf⟩ := HC7.out.cell (i := 1 + j) (by omega); exact ⟨by rw [hu]; rfl, hf⟩) (by rw [Cht.infoDir, List.size_toArray, HDL.out]) (all_one HD1.out) ?_)
   go_meet
   exact ⟨rfl, HC7.out.puts _ _ _⟩
  obtain ⟨rfl, hc⟩ := hcut
  have HC := Lib.hid hc
  clear hc hop HC6 hc0
  go_wp2_with fail
  go_loopw [42] (fun u wr => ∃ i : Nat, i ≤ 8 ∧ u = .int .i64 (i : Int) ∧ CB w g wr) (fun u _ => 8 - (intOf u).toNat)
  case atStart => exact ⟨0, by decide, rfl, HC.out⟩
  case round =>
   clear HC
   obtain ⟨i, hi8, rfl, hc⟩ := hrel
   have HC := Lib.hid hc
   by_cases hlt : i < 8
   ·have d0 : decide ((i : Int) < 8) = true := decide_eq_true (by omega)
    have d0' : decide (i < 8) = true := decide_eq_true hlt
    have l0 : (i : Int) < 8 := by omega
    have l1 : (i : Int) < 32 := by omega
    have l2 : i < 32 := by omega
    obtain ⟨⟨u, hu⟩, hf⟩ := hc.cell (i := 9 + i * 259) (by omega)
    clear hc
    go_wp2_with fail
    exact ⟨⟨i + 1, by omega, by go_num, HC.out.put _ _⟩, by simp [intOf]; omega⟩
   ·obtain rfl : i = 8 := by omega
    clear hc
    go_wp2_with fail
    refine bodyPost_ret (results_tmp2 rfl _ _ _) rfl ?_
    exact ⟨⟨some ⟨g, 0, none⟩, by rw [← HGC.out]; rfl⟩, HC.out.keep⟩
 ·have k0 : (gc != 0) = true := bne_iff_ne.2 h0
  clear h0
  go_wp2_with fail
  refine bodyPost_ret (results_tmp2 rfl _ _ _) rfl ?_
  exact ⟨⟨none, by rw [← HGC.out]; rfl⟩, HB.out⟩
end Cac
end
end Go.Proofs.YtekjehbkmlodmaaGreat
