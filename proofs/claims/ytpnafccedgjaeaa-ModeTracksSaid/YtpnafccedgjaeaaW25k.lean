import Derived.Test.YtpnafccedgjaeaaW25j
namespace Go.Proofs.Ytpnafccedgjaeaa
open Go.RowKit
namespace M25

theorem open_row {W : World} {v : Value} (h : VSat W (.slice InSh) false v) : ∃ A L cap, v = .slice A (List.length L) cap ∧ InRow W A L ∧ L.length ≤ maxLen := by
  obtain ⟨A, len, cap, e, hl, hm, hc⟩ := h
  injection e with e
  subst e
  by_cases h0 : len = 0
  · subst h0
    exact ⟨A, [], cap, rfl, .inl rfl, by simp [maxLen]⟩
  rcases hc with ⟨_, h0', _⟩ | h0' | ⟨b, off, rfl, hb, hi⟩
  · exact absurd h0' h0
  · exact absurd h0' h0
  · have hi' : ∀ i, i < len → ∃ x : In, ∀ j u, x.cells[j]? = some u → W.cell? ⟨b, off + i * 9 + j, none⟩ = some u := by
      intro i hil
      obtain ⟨cs, _, hc, hs⟩ := hi i hil
      obtain ⟨x, rfl⟩ := open_in hs
      exact ⟨x, hc⟩
    obtain ⟨L, rfl, hL⟩ := list_of hi'
    refine ⟨_, L, cap, rfl, .inr ⟨b, off, rfl, hb, fun i h => ?_⟩, by omega⟩
    have h := hL i h
    exact ⟨h 0 _ rfl, h 1 _ rfl, h 2 _ rfl, h 3 _ rfl, h 4 _ rfl, h 5 _ rfl, h 6 _ rfl, h 7 _ rfl, h 8 _ rfl⟩

theorem walkRuns (v0 v1 : Value) (W : World) (h0 : VSat W (.int .i64) false v0) (h1 : VSat W (.slice InSh) false v1) :
    Calls Try.prog 11 #[v0, v1] W fun e W' => e = .returned (.bool true) ∧ Below W.heap.size W W' := by
  obtain ⟨m, hm, _⟩ := h0
  injection hm with hm
  subst hm
  obtain ⟨A, L, cap, rfl, hL, hl⟩ := open_row h1
  exact lawRuns_any m A L cap W hL hl
theorem walkFaults (v0 v1 : Value) (W : World) (h0 : VSat W (.int .i64) false v0) (h1 : VSat W (.slice InSh) false v1) :
    Calls Try.prog 12 #[v0, v1] W fun e W' => e = .returned (.bool true) ∧ Below W.heap.size W W' := by
  obtain ⟨m, hm, _⟩ := h0
  injection hm with hm
  subst hm
  obtain ⟨A, L, cap, rfl, hL, hl⟩ := open_row h1
  exact lawFaults_any m A L cap W hL hl
theorem walkTracks (v0 v1 : Value) (W : World) (h0 : VSat W (.int .i64) false v0) (h1 : VSat W (.slice InSh) false v1) :
    Calls Try.prog 13 #[v0, v1] W fun e W' => e = .returned (.bool true) ∧ Below W.heap.size W W' := by
  obtain ⟨m, hm, _⟩ := h0
  injection hm with hm
  subst hm
  obtain ⟨A, L, cap, rfl, hL, hl⟩ := open_row h1
  exact lawTracks_any m A L cap W hL hl
end M25
end Go.Proofs.Ytpnafccedgjaeaa
