/-
  The walk of the reference's Same.
-/
import Derived.Test.YtpnafccedgjaeaaProfW5
namespace Go.Proofs.Ytpnafccedgjaeaa
open Go.RowKit
namespace Prof

theorem smp_eq (s t : Smp) : s = t ∨ (s.dx == t.dx) = false ∨ (s.dx = t.dx ∧ (s.dy == t.dy) = false) ∨ (s.dx = t.dx ∧ s.dy = t.dy ∧ (s.z == t.z) = false) := by
  obtain ⟨a, b, c⟩ := s
  obtain ⟨a', b', c'⟩ := t
  by_cases h1 : a = a'
  · by_cases h2 : b = b'
    · by_cases h3 : c = c'
      · exact .inl (by rw [h1, h2, h3])
      · exact .inr (.inr (.inr ⟨h1, h2, beq_eq_false_iff_ne.2 h3⟩))
    · exact .inr (.inr (.inl ⟨h1, beq_eq_false_iff_ne.2 h2⟩))
  · exact .inr (.inl (beq_eq_false_iff_ne.2 h1))
theorem smp_ne {s t : Smp} (h : (s.dx == t.dx) = false ∨ (s.dx = t.dx ∧ (s.dy == t.dy) = false) ∨ (s.dx = t.dx ∧ s.dy = t.dy ∧ (s.z == t.z) = false)) : s ≠ t := by
  rintro rfl
  simp at h
theorem take_next {L M : List Smp} {k : Nat} (h : k < L.length) (h' : k < M.length) (ht : L.take k = M.take k) (he : L[k] = M[k]) : L.take (k + 1) = M.take (k + 1) := by
  rw [List.take_add_one, List.take_add_one, ht, List.getElem?_eq_getElem h, List.getElem?_eq_getElem h', he]

/-- of two lengths that differ -/
theorem same_len (A A' : Option Addr) (n n' cap cap' : Nat) (w : World) (h : n ≠ n') :
    Calls Try.prog 33 #[.slice A n cap, .slice A' n' cap'] w fun e w' => e = .returned (.bool false) ∧ w = w' := by
  have e : ((n : Int) == (n' : Int)) = false := by rw [beq_eq_false_iff_ne]; omega
  clear h
  go_enter Try.func33, Try.ntmps33
  go_wp2
  go_ret
  exact ⟨rfl, rfl⟩

set_option maxHeartbeats 1000000 in
theorem same_list (A A' : Option Addr) (L L' : List Smp) (n cap cap' : Nat) (w : World) (hn : n ≤ 1000000) (hl : L.length = n) (hl' : L'.length = n) (h : RdS w w.heap.size A L) (h' : RdS w w.heap.size A' L') :
    Calls Try.prog 33 #[.slice A n cap, .slice A' n cap'] w fun e w' => e = .returned (.bool (decide (L = L'))) ∧ Below w.heap.size w w' := by
  have h0 := Lib.hid h
  have h0' := Lib.hid h'
  clear h h'
  have Hl := Lib.hid hl
  have Hl' := Lib.hid hl'
  clear hl hl'
  go_enter Try.func33, Try.ntmps33
  go_wp2
  go_loopw [5] (fun i wr => ∃ k : Nat, k ≤ n ∧ i = .int .i64 k ∧ L.take k = L'.take k ∧ Below w.heap.size w wr) (fun i _ => n - (intOf i).toNat)
  case atStart => exact ⟨0, by omega, rfl, rfl, Below.refl _ _⟩
  case round =>
    obtain ⟨k, hk, rfl, ht, hb⟩ := hrel
    have Ht := Lib.hid ht
    clear ht
    by_cases hlt : k < n
    · have hkl : k < L.length := by rw [Hl.out]; exact hlt
      have hkl' : k < L'.length := by rw [Hl'.out]; exact hlt
      obtain ⟨q, rfl, hq, hc⟩ := (h0.out.below hb).at (by omega)
      obtain ⟨q', rfl, hq', hc'⟩ := (h0'.out.below hb).at (by omega)
      obtain ⟨c1, c2, c3⟩ := hc k hkl
      obtain ⟨d1, d2, d3⟩ := hc' k hkl'
      clear hc hc'
      have hnx := Lib.hid (take_next hkl hkl' Ht.out)
      have hnz : L[k] ≠ L'[k] → L ≠ L' := by
        rintro h rfl
        exact h rfl
      have Hnz := Lib.hid hnz
      clear hnz hq hq'
      generalize L[k] = s at *
      generalize L'[k] = t at *
      clear hkl hkl'
      rcases smp_eq s t with rfl | hne
      · go_wp2
        go_quiet (fail)
        go_wp2
        go_roundw
        case rel => exact ⟨k + 1, by omega, by go_num, (by first | exact hnx.out trivial | exact hnx.out rfl), below_drewN hb _⟩
        case measure => simp [intOf]; omega
      · have hx := Hnz.out (smp_ne hne)
        have Hx := Lib.hid hx
        clear hx hnx Hnz
        rcases hne with e | ⟨e0, e⟩ | ⟨e0, e1, e⟩
        · go_wp2
          go_quiet (fail)
          go_wp2
          go_ret
          exact ⟨by rw [decide_eq_false Hx.out]; rfl, below_drewN hb _⟩
        · go_wp2
          go_quiet (fail)
          go_wp2
          go_ret
          exact ⟨by rw [decide_eq_false Hx.out]; rfl, below_drewN hb _⟩
        · go_wp2
          go_quiet (fail)
          go_wp2
          go_ret
          exact ⟨by rw [decide_eq_false Hx.out]; rfl, below_drewN hb _⟩
    · have e : k = n := by omega
      have hLL : L = L' := by
        have := Ht.out
        rw [e] at this
        rw [← List.take_length (l := L), Hl.out, this, ← Hl'.out, List.take_length]
      have HLL := Lib.hid hLL
      clear e hLL
      go_wp2
      go_ret
      exact ⟨by rw [decide_eq_true HLL.out]; rfl, hb⟩
end Prof
end Go.Proofs.Ytpnafccedgjaeaa
