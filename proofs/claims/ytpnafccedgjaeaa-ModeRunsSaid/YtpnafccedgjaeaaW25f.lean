import Derived.Test.YtpnafccedgjaeaaW25e
namespace Go.Proofs.Ytpnafccedgjaeaa
open Go.RowKit
namespace M25

theorem _root_.Go.Proofs.Ytpnafccedgjaeaa.Blk.nine {w : World} {g : Nat} {t : TypeId} {a b c d e f x y z : Value} (h : Blk w g t [a, b, c, d, e, f, x, y, z]) :
    w.cell? ⟨g, 0, none⟩ = some a ∧ w.cell? ⟨g, 1, none⟩ = some b ∧ w.cell? ⟨g, 2, none⟩ = some c ∧ w.cell? ⟨g, 3, none⟩ = some d ∧ w.cell? ⟨g, 4, none⟩ = some e ∧ w.cell? ⟨g, 5, none⟩ = some f ∧ w.cell? ⟨g, 6, none⟩ = some x ∧ w.cell? ⟨g, 7, none⟩ = some y ∧ w.cell? ⟨g, 8, none⟩ = some z :=
  ⟨h.cell 0, h.cell 1, h.cell 2, h.cell 3, h.cell 4, h.cell 5, h.cell 6, h.cell 7, h.cell 8⟩

theorem ways_bit (m : Int) (i : In) (h0 : 0 ≤ m) (h4 : m ≤ 4) : bits BinOp.and IntKind.u8 (ways m / 2 ^ (nxt m i).1.toNat) 1 = 1 := by
  obtain ⟨a, b, c, d, e, f, g, h, j⟩ := i
  obtain rfl | rfl | rfl | rfl | rfl : m = 0 ∨ m = 1 ∨ m = 2 ∨ m = 3 ∨ m = 4 := by omega
  all_goals
    unfold nxt fol
    rw [right_t h0 h4]
    revert a b c d e f g h j
    decide
theorem nameOf_ne (m : Int) (h0 : 0 ≤ m) (h4 : m ≤ 4) : (nameOf m).toList.isEmpty = false ∧ ((nameOf m).toList = []) = False := by
  have e : (nameOf m).toList ≠ [] := by
    obtain rfl | rfl | rfl | rfl | rfl : m = 0 ∨ m = 1 ∨ m = 2 ∨ m = 3 ∨ m = 4 := by omega
    all_goals decide +kernel
  exact ⟨by simpa using e, by simpa using e⟩
theorem nameOf_no (m : Int) (h : m < 0 ∨ 4 < m) : (nameOf m).toList = [] := by
  unfold nameOf
  rw [if_neg (by omega), if_neg (by omega), if_neg (by omega), if_neg (by omega), if_neg (by omega)]
  decide +kernel
theorem ways_no (m : Int) (h : m < 0 ∨ 4 < m) : ways m = 0 := by
  unfold ways
  rw [if_neg (by omega), if_neg (by omega), if_neg (by omega), if_neg (by omega), if_neg (by omega)]

set_option maxRecDepth 100000 in
set_option maxHeartbeats 4000000 in
theorem lawNext_any (m : Int) (a b c d e f g h j : Bool) (w : World) :
    Calls Try.prog 10 #[.int .i64 m, .agg #[.bool a, .bool b, .bool c, .bool d, .bool e, .bool f, .bool g, .bool h, .bool j]] w fun e' w' => e' = .returned (.bool true) ∧ Below w.heap.size w w' := by
  have hnb := nxt_bd m ⟨a, b, c, d, e, f, g, h, j⟩
  have hn := next_any m a b c d e f g h j
  have hn' := rnext_any m a b c d e f g h j
  have hbit := ways_bit m ⟨a, b, c, d, e, f, g, h, j⟩
  generalize nxt m ⟨a, b, c, d, e, f, g, h, j⟩ = n at *
  obtain ⟨x, y⟩ := n
  dsimp only at *
  have Hn := Lib.hid hn; clear hn
  have Hn' := Lib.hid hn'; clear hn'
  obtain ⟨hx0, hx4⟩ := hnb
  have hrx : right x = true := right_t hx0 hx4
  by_cases hr : 0 ≤ m ∧ m ≤ 4
  · obtain ⟨h0, h4⟩ := hr
    have hrm : right m = true := right_t h0 h4
    have hl1 : decide (0 ≤ m) = true := by simp [h0]
    have hl2 : decide (m ≤ 4) = true := by simp [h4]
    obtain ⟨hN, hN'⟩ := nameOf_ne m h0 h4
    replace hbit := hbit h0 h4
    by_cases h2 : m = 2
    · subst h2
      clear h0 h4 hl1 hl2
      go_enter Try.func10, Try.ntmps10
      go_wp2_with fail
      refine (Hn.out _).mono ?_
      rintro e' w1 ⟨rfl, hb1⟩
      obtain ⟨c0, c1, c2, c3, c4, c5, c6, c7, c8⟩ := Blk.nine ((Blk.mk w 66 [.bool a, .bool b, .bool c, .bool d, .bool e, .bool f, .bool g, .bool h, .bool j]).below hb1 (by simp))
      go_wp2_with fail
      refine (Hn'.out _).mono ?_
      rintro e' w2 ⟨rfl, hb2⟩
      go_wp2_with (first | (go_at_call 42; refine (name_any _ _).mono ?_; rintro e w' ⟨rfl, rfl⟩) | (go_at_call 41; refine (holds_any _ _).mono ?_; rintro e w' ⟨rfl, rfl⟩) | (go_at_call 40; refine (ways_any _ _).mono ?_; rintro e w' ⟨rfl, rfl⟩) | (go_at_call 39; refine (right_any _ _).mono ?_; rintro e w' ⟨rfl, rfl⟩) | (go_at_call 43; refine (works_any _).mono ?_; rintro e w3 ⟨rfl, hb3⟩))
      go_ret
      exact ⟨rfl, bt (bt (bt (bl _ _) hb1) hb2) hb3⟩
    · by_cases h3 : m = 3
      · subst h3
        clear h0 h4 hl1 hl2 h2
        go_enter Try.func10, Try.ntmps10
        go_wp2_with fail
        refine (Hn.out _).mono ?_
        rintro e' w1 ⟨rfl, hb1⟩
        obtain ⟨c0, c1, c2, c3, c4, c5, c6, c7, c8⟩ := Blk.nine ((Blk.mk w 66 [.bool a, .bool b, .bool c, .bool d, .bool e, .bool f, .bool g, .bool h, .bool j]).below hb1 (by simp))
        go_wp2_with fail
        refine (Hn'.out _).mono ?_
        rintro e' w2 ⟨rfl, hb2⟩
        go_wp2_with (first | (go_at_call 42; refine (name_any _ _).mono ?_; rintro e w' ⟨rfl, rfl⟩) | (go_at_call 41; refine (holds_any _ _).mono ?_; rintro e w' ⟨rfl, rfl⟩) | (go_at_call 40; refine (ways_any _ _).mono ?_; rintro e w' ⟨rfl, rfl⟩) | (go_at_call 39; refine (right_any _ _).mono ?_; rintro e w' ⟨rfl, rfl⟩) | (go_at_call 43; refine (works_any _).mono ?_; rintro e w3 ⟨rfl, hb3⟩))
        go_ret
        exact ⟨rfl, bt (bt (bt (bl _ _) hb1) hb2) hb3⟩
      · have h2' : (m == 2) = false := by simp [h2]
        have h3' : (m == 3) = false := by simp [h3]
        clear h2 h3
        go_enter Try.func10, Try.ntmps10
        go_wp2_with fail
        refine (Hn.out _).mono ?_
        rintro e' w1 ⟨rfl, hb1⟩
        obtain ⟨c0, c1, c2, c3, c4, c5, c6, c7, c8⟩ := Blk.nine ((Blk.mk w 66 [.bool a, .bool b, .bool c, .bool d, .bool e, .bool f, .bool g, .bool h, .bool j]).below hb1 (by simp))
        go_wp2_with fail
        refine (Hn'.out _).mono ?_
        rintro e' w2 ⟨rfl, hb2⟩
        go_wp2_with (first | (go_at_call 42; refine (name_any _ _).mono ?_; rintro e w' ⟨rfl, rfl⟩) | (go_at_call 41; refine (holds_any _ _).mono ?_; rintro e w' ⟨rfl, rfl⟩) | (go_at_call 40; refine (ways_any _ _).mono ?_; rintro e w' ⟨rfl, rfl⟩) | (go_at_call 39; refine (right_any _ _).mono ?_; rintro e w' ⟨rfl, rfl⟩) | (go_at_call 43; refine (works_any _).mono ?_; rintro e w3 ⟨rfl, hb3⟩))
        go_ret
        exact ⟨rfl, bt (bt (bt (bl _ _) hb1) hb2) hb3⟩
  · have hr' : m < 0 ∨ 4 < m := by omega
    have hrm : right m = false := right_f hr'
    have hl : (decide (0 ≤ m) && decide (m ≤ 4)) = false := by simp; omega
    have hN := nameOf_no m hr'
    have hW := ways_no m hr'
    have h2' : (m == 2) = false := by simp; omega
    have h3' : (m == 3) = false := by simp; omega
    clear hr hbit
    rcases hr' with hr' | hr'
    all_goals
      go_enter Try.func10, Try.ntmps10
      go_wp2_with fail
      refine (Hn.out _).mono ?_
      rintro e' w1 ⟨rfl, hb1⟩
      obtain ⟨c0, c1, c2, c3, c4, c5, c6, c7, c8⟩ := Blk.nine ((Blk.mk w 66 [.bool a, .bool b, .bool c, .bool d, .bool e, .bool f, .bool g, .bool h, .bool j]).below hb1 (by simp))
      go_wp2_with fail
      refine (Hn'.out _).mono ?_
      rintro e' w2 ⟨rfl, hb2⟩
      go_wp2_with (first | (go_at_call 42; refine (name_any _ _).mono ?_; rintro e w' ⟨rfl, rfl⟩) | (go_at_call 41; refine (holds_any _ _).mono ?_; rintro e w' ⟨rfl, rfl⟩) | (go_at_call 40; refine (ways_any _ _).mono ?_; rintro e w' ⟨rfl, rfl⟩) | (go_at_call 39; refine (right_any _ _).mono ?_; rintro e w' ⟨rfl, rfl⟩) | (go_at_call 43; refine (works_any _).mono ?_; rintro e w3 ⟨rfl, hb3⟩))
      go_ret
      exact ⟨rfl, bt (bt (bt (bl _ _) hb1) hb2) hb3⟩

end M25
end Go.Proofs.Ytpnafccedgjaeaa
