/-
  A cell written inside an own row.
-/
import Derived.Test.YtgncngpgodfijaaRouS
namespace Go.Proofs.Ytgncngpgodfijaa
open Go.RowKit
set_option linter.unusedVariables false
namespace Rou
theorem own_set {w : World} {base n g cap : Nat} {e : TypeId} {L : List Value} (h : w.ownsRow base e 1 (.slice (some ⟨g, 0, none⟩) n cap) n L) (i : Nat) (x : Value) :
    (w.setCell ⟨g, i, none⟩ x).ownsRow base e 1 (.slice (some ⟨g, 0, none⟩) n cap) n (L.set i x) := by
  obtain ⟨h1, h2⟩ := h
  refine ⟨by rw [List.length_set]; exact h1, ?_⟩
  rcases h2 with ⟨hv, _⟩ | ⟨g', cap', cur, hv, hb, hh, h3, h4, h5, h6⟩
  · simp at hv
  · simp at hv
    obtain ⟨rfl, rfl⟩ := hv
    have hB : Blk w g e cur.toList := hh
    refine .inr ⟨g, cap, (cur.toList.set i x).toArray, rfl, hb, hB.put i x, h3, h4, by simp [h5], ?_⟩
    rw [List.take_set, h6]
end Rou
end Go.Proofs.Ytgncngpgodfijaa
