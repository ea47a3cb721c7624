/-
  What the reference's Add keeps from round to round.
-/
import Derived.Test.YtpnafccedgjaeaaProfW9
namespace Go.Proofs.Ytpnafccedgjaeaa
open Go.RowKit
namespace Prof

theorem take_more (L : List Smp) (k d : Nat) (h : k < L.length) (hd : d ≤ k) : (L.take (k + 1)).drop d = (L.take k).drop d ++ [L[k]] := by
  rw [List.take_add_one, List.getElem?_eq_getElem h, List.drop_append_of_le_length (by rw [List.length_take]; omega)]
  rfl
theorem OwnS.lower {w : World} {B B' n : Nat} {v : Value} {L : List Smp} (h : OwnS w B v n L) (hB : B' ≤ B) : OwnS w B' v n L := by
  obtain ⟨⟨h1, h2⟩, h3⟩ := h
  refine ⟨⟨h1, ?_⟩, h3⟩
  rcases h2 with h | ⟨g, cap, cur, e, hb, h⟩
  · exact .inl h
  · exact .inr ⟨g, cap, cur, e, by omega, h⟩
theorem OwnS.set {w : World} {B n g i : Nat} {u v : Value} {L : List Smp} (h : OwnS w B v n L) (hg : g < B) : OwnS (w.setCell ⟨g, i, none⟩ u) B v n L := by
  refine ⟨h.1.kept (row := some g) (only_set (only_refl _ _) _ _) (.inr ?_), h.2⟩
  intro e
  have := own_ge h.1 g e
  omega
def rcells (A : Option Addr) (n cap : Nat) (x y gap : Int) : List Value := [.slice A n cap, .int .i64 x, .int .i64 y, .int .i64 gap]
/-- the loop's state, behind k heights -/
def LoopR (w : World) (A : Option Addr) (L : List Smp) (n cap d : Nat) (x y gap : Int) (k : Nat) (wr : World) : Prop :=
  Blk wr w.heap.size 46 (rcells A n cap x y gap) ∧ Blk wr (w.heap.size + 1) 46 (rcells none 0 0 0 0 0) ∧
    ∃ A' mm cap', Blk wr (w.heap.size + 1 + 1) 46 (rcells A' mm cap' x y gap) ∧ (mm + d = k ∨ (k = 0 ∧ mm = 0)) ∧ OwnS wr (w.heap.size + 3) (.slice A' mm cap') mm ((L.take k).drop d) ∧ Below w.heap.size w wr

end Prof
end Go.Proofs.Ytpnafccedgjaeaa
