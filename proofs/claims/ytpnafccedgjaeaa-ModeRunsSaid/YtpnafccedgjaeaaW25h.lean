import Derived.Test.YtpnafccedgjaeaaW25g
namespace Go.Proofs.Ytpnafccedgjaeaa
open Go.RowKit
namespace M25

def inv (m : Int) (bk : Bool) : Prop := bk = !(decide (0 ≤ m) && decide (m ≤ 3))
theorem inv_step {m : Int} {bk : Bool} (h : inv m bk) (i : In) : (((nxt m i).1 == 4) = (bk || i.broken)) ∧ inv (nxt m i).1 (bk || i.broken) := by
  have hb := nxt_bd m i
  have h4 : ((nxt m i).1 = 4) ↔ (bk || i.broken) = true := by
    unfold inv at h
    by_cases hr : 0 ≤ m ∧ m ≤ 3
    · obtain rfl : bk = false := by rw [h]; simp [hr.1, hr.2]
      obtain ⟨a, b, c, d, e, f, g, h, j⟩ := i
      obtain rfl | rfl | rfl | rfl : m = 0 ∨ m = 1 ∨ m = 2 ∨ m = 3 := by omega
      all_goals
        clear h hr hb
        revert a b c d e f g j
        revert h
        unfold nxt fol
        decide
    · obtain rfl : bk = true := by rw [h]; simp; omega
      simp only [Bool.true_or, iff_true]
      unfold nxt
      by_cases hr : 0 ≤ m ∧ m ≤ 4
      · rw [if_pos (.inr (.inr (by omega)))]
      · rw [if_pos (.inl (right_f (by omega)))]
  constructor
  · rw [Bool.eq_iff_iff, beq_iff_eq]; exact h4
  · unfold inv
    rw [Bool.eq_iff_iff, ← h4]
    simp
    omega

set_option maxRecDepth 100000 in
set_option maxHeartbeats 4000000 in
theorem lawFaults_any (m : Int) (A : Option Addr) (L : List In) (cap : Nat) (w : World) (hL : InRow w A L) (hl : L.length ≤ maxLen) :
    Calls Try.prog 12 #[.int .i64 m, .slice A L.length cap] w fun e' w' => e' = .returned (.bool true) ∧ Below w.heap.size w w' := by
  unfold maxLen at hl
  by_cases hlen : L.length ≤ 200
  · have hd : decide ((200 : Int) < (L.length : Int)) = false := by simp; omega
    obtain ⟨bk0, hstart⟩ : ∃ b : Bool, inv m b := ⟨_, rfl⟩
    have hc : (m < 0 ∧ bk0 = true) ∨ (0 ≤ m ∧ 4 ≤ m ∧ bk0 = true) ∨ (0 ≤ m ∧ m < 4 ∧ bk0 = false) := by
      unfold inv at hstart
      rw [hstart]
      simp
      omega
    have Hst := Lib.hid hstart; clear hstart
    rcases hc with ⟨hm, rfl⟩ | ⟨hm, hm', rfl⟩ | ⟨hm, hm', rfl⟩
    all_goals
      go_enter Try.func12, Try.ntmps12
      go_wp2_with fail
      go_loopw [5, 6, 7] (fun b' a' i' wr => ∃ (k : Nat) (mk : Int) (bk : Bool), k ≤ L.length ∧ i' = .int .i64 k ∧ a' = .int .i64 mk ∧ b' = .bool bk ∧ inv mk bk ∧ Below w.heap.size w wr) (fun _ _ i' _ => L.length - (intOf i').toNat)
      case atStart =>
        first
          | exact ⟨0, m, _, by omega, rfl, rfl, rfl, Hst.out, Below.refl _ _⟩
          | (have e : (decide (m < 0) || decide (4 ≤ m)) = false := by simp; omega
             exact ⟨0, m, false, by omega, rfl, rfl, by rw [e], Hst.out, Below.refl _ _⟩)
      case round =>
        clear hm
        try clear hm'
        obtain ⟨k, mk, bk, hk, rfl, rfl, rfl, hinv, hb⟩ := hrel
        by_cases hlt : k < L.length
        · rcases hL with rfl | ⟨b, off, rfl, hbl, hcell⟩
          · simp at hlt
          obtain ⟨c0, c1, c2, c3, c4, c5, c6, c7, c8⟩ := hcell k hlt
          rw [← (bcell hb).1 _ _ hbl] at c0 c1 c2 c3 c4 c5 c6 c7 c8
          obtain ⟨hs, hs'⟩ := inv_step hinv L[k]
          have hnx := fun W => next_any mk L[k].start L[k].stop L[k].broken L[k].clear L[k].tried L[k].found L[k].missed L[k].lost L[k].over W
          have e : (⟨L[k].start, L[k].stop, L[k].broken, L[k].clear, L[k].tried, L[k].found, L[k].missed, L[k].lost, L[k].over⟩ : In) = L[k] := rfl
          rw [e] at hnx
          clear e hinv Hst hcell
          generalize nxt mk L[k] = n at *
          obtain ⟨n1, n2⟩ := n
          generalize hB : L[k].broken = br at *
          clear hB
          dsimp only at *
          have Hnx := Lib.hid hnx; clear hnx
          have Hs' := Lib.hid hs'; clear hs'
          cases bk <;> cases br
          all_goals
            simp only [Bool.or_true, Bool.or_false] at hs
            go_wp2_with fail
            refine (Hnx.out _).mono ?_
            rintro e w1 ⟨rfl, hb1⟩
            go_wp2_with fail
            go_roundw
            case rel => exact ⟨k + 1, n1, _, by omega, by go_num, rfl, rfl, Hs'.out, bt hb hb1⟩
            case measure => simp [intOf]; omega
        · go_wp2_with (go_at_call 43; refine (works_any _).mono ?_; rintro e w3 ⟨rfl, hb3⟩)
          go_ret
          exact ⟨rfl, bt hb hb3⟩
  · go_enter Try.func12, Try.ntmps12
    go_wp2_with (go_at_call 43; refine (works_any _).mono ?_; rintro e w3 ⟨rfl, hb3⟩)
    go_ret
    exact ⟨rfl, hb3⟩

end M25
end Go.Proofs.Ytpnafccedgjaeaa
