import Derived.Test.YtpnafccedgjaeaaW25d
namespace Go.Proofs.Ytpnafccedgjaeaa
open Go.RowKit
namespace M25

theorem next_eq {m x y : Int} {a b c d e f g h j : Bool} {w : World} (hn : nxt m ⟨a, b, c, d, e, f, g, h, j⟩ = (x, y)) :
    Calls Try.prog 37 #[.int .i64 m, .agg #[.bool a, .bool b, .bool c, .bool d, .bool e, .bool f, .bool g, .bool h, .bool j]] w fun e' w' => e' = .returned (.tuple #[.int .i64 x, .int .i64 y]) ∧ Below w.heap.size w w' :=
  (next_any m a b c d e f g h j w).mono fun _ _ hh => by rw [hn] at hh; exact hh
theorem run_eq {m x : Int} {L : List In} {ys : List Int} {A : Option Addr} {n cap : Nat} {w : World} (hn : L.length = n) (hr : runTo m L = (x, ys)) (hL : InRow w A L) (hl : L.length ≤ 1000) :
    Calls Try.prog 44 #[.int .i64 m, .slice A n cap] w fun e' w' => e' = .returned (.tuple #[.int .i64 x, .agg (ys.map (.int .i64 ·)).toArray]) ∧ Below w.heap.size w w' := by
  subst hn
  exact (run_any m A L cap w hL hl).mono fun _ _ hh => by rw [hr] at hh; exact hh

def exL : List In := [⟨true, false, false, false, false, false, false, false, false⟩, ⟨false, false, false, true, false, false, false, false, false⟩, ⟨false, false, false, false, false, false, true, false, false⟩, ⟨false, false, false, false, false, false, true, false, false⟩]
theorem exRow (w : World) : InRow (w.alloc (.cells #[.bool true, .bool false, .bool false, .bool false, .bool false, .bool false, .bool false, .bool false, .bool false, .bool false, .bool false, .bool false, .bool true, .bool false, .bool false, .bool false, .bool false, .bool false, .bool false, .bool false, .bool false, .bool false, .bool false, .bool false, .bool true, .bool false, .bool false, .bool false, .bool false, .bool false, .bool false, .bool false, .bool false, .bool true, .bool false, .bool false] 66)) (some ⟨w.heap.size, 0, none⟩) exL := by
  refine .inr ⟨_, 0, rfl, by simp, fun i hi => ?_⟩
  have h := (Blk.mk w 66 [.bool true, .bool false, .bool false, .bool false, .bool false, .bool false, .bool false, .bool false, .bool false, .bool false, .bool false, .bool false, .bool true, .bool false, .bool false, .bool false, .bool false, .bool false, .bool false, .bool false, .bool false, .bool false, .bool false, .bool false, .bool true, .bool false, .bool false, .bool false, .bool false, .bool false, .bool false, .bool false, .bool false, .bool true, .bool false, .bool false]).cell
  have h4 : i < 4 := hi
  obtain rfl | rfl | rfl | rfl : i = 0 ∨ i = 1 ∨ i = 2 ∨ i = 3 := by omega
  all_goals
    refine ⟨?_, ?_, ?_, ?_, ?_, ?_, ?_, ?_, ?_⟩
    all_goals (exact h _)

set_option maxRecDepth 100000 in
set_option maxHeartbeats 2000000 in
theorem works_any (w : World) :
    Calls Try.prog 43 #[] w fun e' w' => e' = .returned (.bool true) ∧ Below w.heap.size w w' := by
  have hE : ∀ w, (binOp .eql 74 (.agg #[.int .i64 0, .int .i64 1, .int .i64 1, .int .i64 1, .int .i64 0]) (.agg #[.int .i64 0, .int .i64 1, .int .i64 1, .int .i64 1, .int .i64 0])).run Try.prog w = .ok (.bool true) w := fun _ => by kernel_rfl
  have n3 : (nameOf 3).toList = [99, 111, 97, 115, 116] := by decide +kernel
  have n5 : (nameOf 5).toList = [] := by decide +kernel
  have r4 : right 4 = true := by decide
  have r1 : right (-1) = false := by decide
  have w4 : ways 4 = 16 := by decide
  go_enter Try.func43, Try.ntmps43
  go_wp2_with fail
  refine (next_eq (x := 1) (y := 1) (by decide)).mono ?_
  rintro e w1 ⟨rfl, hb1⟩
  go_wp2_with fail
  refine (next_eq (x := 2) (y := 2) (by decide)).mono ?_
  rintro e w2 ⟨rfl, hb2⟩
  replace hb1 := bt hb1 hb2; clear hb2
  go_wp2_with fail
  refine (next_eq (x := 3) (y := 0) (by decide)).mono ?_
  rintro e w2 ⟨rfl, hb2⟩
  replace hb1 := bt hb1 hb2; clear hb2
  go_wp2_with fail
  refine (next_eq (x := 2) (y := 0) (by decide)).mono ?_
  rintro e w2 ⟨rfl, hb2⟩
  replace hb1 := bt hb1 hb2; clear hb2
  go_wp2_with fail
  refine (next_eq (x := 1) (y := 1) (by decide)).mono ?_
  rintro e w2 ⟨rfl, hb2⟩
  replace hb1 := bt hb1 hb2; clear hb2
  go_wp2_with fail
  refine (next_eq (x := 4) (y := 0) (by decide)).mono ?_
  rintro e w2 ⟨rfl, hb2⟩
  replace hb1 := bt hb1 hb2; clear hb2
  go_wp2_with fail
  refine (run_eq (x := 3) (ys := [0, 1, 1, 1, 0]) (L := exL) rfl (by decide) (exRow _) (by decide)).mono ?_
  rintro e w3 ⟨rfl, hb2⟩
  replace hb1 := blk_bt hb1 (by simpa using hb2); clear hb2
  go_wp2_with (first | (go_at_call 42; refine (name_any _ _).mono ?_; rintro e w' ⟨rfl, rfl⟩) | (go_at_call 41; refine (holds_any _ _).mono ?_; rintro e w' ⟨rfl, rfl⟩) | (go_at_call 40; refine (ways_any _ _).mono ?_; rintro e w' ⟨rfl, rfl⟩) | (go_at_call 39; refine (right_any _ _).mono ?_; rintro e w' ⟨rfl, rfl⟩))
  go_ret
  exact ⟨rfl, hb1.alloc hb1.size _⟩

end M25
end Go.Proofs.Ytpnafccedgjaeaa
