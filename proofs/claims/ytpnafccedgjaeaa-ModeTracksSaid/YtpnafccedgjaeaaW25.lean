import Derived.Test.YtpnafccedgjaeaaRows
import Derived.Test.YtpnafccedgjaeaaBase
namespace Go.Proofs.Ytpnafccedgjaeaa
open Go.RowKit
namespace M25

def right (m : Int) : Bool := decide (0 ≤ m) && decide (m ≤ 4)
theorem right_t {m : Int} (h : 0 ≤ m) (h' : m ≤ 4) : right m = true := by simp [right, h, h']
theorem right_f {m : Int} (h : m < 0 ∨ 4 < m) : right m = false := by simp [right]; omega

theorem right_any (m : Int) (w : World) :
    Calls Try.prog 39 #[.int .i64 m] w fun e w' => e = .returned (.bool (right m)) ∧ w = w' := by
  go_enter Try.func39, Try.ntmps39
  go_wp2
  all_goals
    go_ret
    refine ⟨?_, rfl⟩
    congr 2
    simp [right]
    try omega

structure In where
  start : Bool
  stop : Bool
  broken : Bool
  clear : Bool
  tried : Bool
  found : Bool
  missed : Bool
  lost : Bool
  over : Bool

theorem bl2 {w w' : World} {o : Obj} (h : Below (w.heap.size + 1) (w.alloc o) w') : Below w.heap.size w w' :=
  (bl w o).trans (h.mono (by omega))

def fol (m : Int) (i : In) : Int × Int :=
  if i.over then (1, 1) else if i.lost then (1, 1) else if i.found then (2, 0) else if i.missed then (3, 0) else (m, 0)

theorem follow_any (m : Int) (a b c d e f g h j : Bool) (w : World) :
    Calls Try.prog 50 #[.int .i64 m, .agg #[.bool a, .bool b, .bool c, .bool d, .bool e, .bool f, .bool g, .bool h, .bool j]] w fun e' w' => e' = .returned (.tuple #[.int .i64 (fol m ⟨a, b, c, d, e, f, g, h, j⟩).1, .int .i64 (fol m ⟨a, b, c, d, e, f, g, h, j⟩).2]) ∧ Below w.heap.size w w' := by
  go_enter Try.func50, Try.ntmps50
  go_wp2
  all_goals
    go_ret2
    exact ⟨by simp [fol, *], bl _ _⟩

def nxt (m : Int) (i : In) : Int × Int :=
  if right m = false ∨ i.broken = true ∨ m = 4 then (4, 0)
  else if i.stop then (0, 3)
  else if m = 0 then (if i.start then (1, 1) else (0, 0))
  else if m = 1 then (if i.clear then (2, 2) else if i.tried then (0, 3) else (1, 0))
  else fol m i

set_option maxHeartbeats 1000000 in
theorem next_any (m : Int) (a b c d e f g h j : Bool) (w : World) :
    Calls Try.prog 37 #[.int .i64 m, .agg #[.bool a, .bool b, .bool c, .bool d, .bool e, .bool f, .bool g, .bool h, .bool j]] w fun e' w' => e' = .returned (.tuple #[.int .i64 (nxt m ⟨a, b, c, d, e, f, g, h, j⟩).1, .int .i64 (nxt m ⟨a, b, c, d, e, f, g, h, j⟩).2]) ∧ Below w.heap.size w w' := by
  by_cases hr : 0 ≤ m ∧ m ≤ 4
  · obtain ⟨h0, h4⟩ := hr
    have hR : right m = true := right_t h0 h4
    by_cases h5 : m = 4
    · subst h5
      go_enter Try.func37, Try.ntmps37
      go_wp2_with (go_at_call 39; refine (right_any _ _).mono ?_; rintro e w' ⟨rfl, rfl⟩)
      all_goals
        go_ret2
        exact ⟨by simp [nxt, *], bl _ _⟩
    · go_enter Try.func37, Try.ntmps37
      go_wp2_with (first | (go_at_call 39; refine (right_any _ _).mono ?_; rintro e w' ⟨rfl, rfl⟩) | (go_at_call 50; refine (follow_any _ _ _ _ _ _ _ _ _ _ _).mono ?_; rintro e w' ⟨rfl, hb⟩))
      all_goals
        go_ret2
        refine ⟨by simp_all [nxt, fol], ?_⟩
        first | exact bl _ _ | exact bl2 (by simpa using hb)
  · have hR : right m = false := right_f (by omega)
    go_enter Try.func37, Try.ntmps37
    go_wp2_with (go_at_call 39; refine (right_any _ _).mono ?_; rintro e w' ⟨rfl, rfl⟩)
    all_goals
      go_ret2
      exact ⟨by simp [nxt, *], bl _ _⟩

end M25
end Go.Proofs.Ytpnafccedgjaeaa
