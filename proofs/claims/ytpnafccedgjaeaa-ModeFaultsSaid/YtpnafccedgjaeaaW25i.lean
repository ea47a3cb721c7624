import Derived.Test.YtpnafccedgjaeaaW25h
namespace Go.Proofs.Ytpnafccedgjaeaa
open Go.RowKit
namespace M25

theorem nxt_cases (m : Int) (i : In) : nxt m i = (4, 0) ∨ nxt m i = (0, 3) ∨ nxt m i = (1, 1) ∨ nxt m i = (0, 0) ∨ nxt m i = (1, 0) ∨ (m = 1 ∧ i.clear = true ∧ nxt m i = (2, 2)) ∨
    (m = 2 ∧ nxt m i = (2, 0)) ∨ (m = 3 ∧ i.found = true ∧ nxt m i = (2, 0)) ∨ (m = 2 ∧ nxt m i = (3, 0)) ∨ (m = 3 ∧ nxt m i = (3, 0)) := by
  by_cases hr : 0 ≤ m ∧ m ≤ 4
  · obtain ⟨a, b, c, d, e, f, g, h, j⟩ := i
    obtain rfl | rfl | rfl | rfl | rfl : m = 0 ∨ m = 1 ∨ m = 2 ∨ m = 3 ∨ m = 4 := by omega
    all_goals
      clear hr
      revert a b c d e f g h j
      unfold nxt fol
      decide
  · left
    unfold nxt
    rw [if_pos (.inl (right_f (by omega)))]

set_option maxRecDepth 100000 in
set_option maxHeartbeats 4000000 in
theorem lawTracks_any (m : Int) (A : Option Addr) (L : List In) (cap : Nat) (w : World) (hL : InRow w A L) (hl : L.length ≤ maxLen) :
    Calls Try.prog 13 #[.int .i64 m, .slice A L.length cap] w fun e' w' => e' = .returned (.bool true) ∧ Below w.heap.size w w' := by
  unfold maxLen at hl
  by_cases hlen : L.length ≤ 200
  · have hd : decide ((200 : Int) < (L.length : Int)) = false := by simp; omega
    go_enter Try.func13, Try.ntmps13
    go_wp2_with fail
    go_loopw [5, 6] (fun a' i' wr => ∃ (k : Nat) (mk : Int), k ≤ L.length ∧ i' = .int .i64 k ∧ a' = .int .i64 mk ∧ Below w.heap.size w wr) (fun _ i' _ => L.length - (intOf i').toNat)
    case atStart => exact ⟨0, m, by omega, rfl, rfl, Below.refl _ _⟩
    case round =>
      obtain ⟨k, mk, hk, rfl, rfl, hb⟩ := hrel
      by_cases hlt : k < L.length
      · rcases hL with rfl | ⟨b, off, rfl, hbl, hcell⟩
        · simp at hlt
        obtain ⟨c0, c1, c2, c3, c4, c5, c6, c7, c8⟩ := hcell k hlt
        rw [← (bcell hb).1 _ _ hbl] at c0 c1 c2 c3 c4 c5 c6 c7 c8
        have hnx := fun W => next_any mk L[k].start L[k].stop L[k].broken L[k].clear L[k].tried L[k].found L[k].missed L[k].lost L[k].over W
        have e : (⟨L[k].start, L[k].stop, L[k].broken, L[k].clear, L[k].tried, L[k].found, L[k].missed, L[k].lost, L[k].over⟩ : In) = L[k] := rfl
        rw [e] at hnx
        have hc := nxt_cases mk L[k]
        clear e hcell
        generalize nxt mk L[k] = n at *
        have Hnx := Lib.hid hnx; clear hnx
        generalize hB3 : L[k].clear = b3 at *
        generalize hB5 : L[k].found = b5 at *
        clear hB3 hB5
        obtain rfl | rfl | rfl | rfl | rfl | ⟨rfl, rfl, rfl⟩ | ⟨rfl, rfl⟩ | ⟨rfl, rfl, rfl⟩ | ⟨rfl, rfl⟩ | ⟨rfl, rfl⟩ := hc
        all_goals
          dsimp only at Hnx
          go_wp2_with fail
          refine (Hnx.out _).mono ?_
          rintro e w1 ⟨rfl, hb1⟩
          have d3 := hb1.cell (p := ⟨b, off + k * 9 + 3, none⟩) (by have := hb.size; dsimp only; omega)
          have d5 := hb1.cell (p := ⟨b, off + k * 9 + 5, none⟩) (by have := hb.size; dsimp only; omega)
          rw [c3] at d3
          rw [c5] at d5
          go_wp2_with fail
          go_roundw
          case rel => exact ⟨k + 1, _, by omega, by go_num, rfl, bt hb hb1⟩
          case measure => simp [intOf]; omega
      · go_wp2_with (go_at_call 43; refine (works_any _).mono ?_; rintro e w3 ⟨rfl, hb3⟩)
        go_ret
        exact ⟨rfl, bt hb hb3⟩
  · go_enter Try.func13, Try.ntmps13
    go_wp2_with (go_at_call 43; refine (works_any _).mono ?_; rintro e w3 ⟨rfl, hb3⟩)
    go_ret
    exact ⟨rfl, hb3⟩

end M25
end Go.Proofs.Ytpnafccedgjaeaa
