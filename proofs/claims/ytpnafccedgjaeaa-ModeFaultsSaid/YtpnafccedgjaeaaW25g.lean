import Derived.Test.YtpnafccedgjaeaaW25f
import Derived.Test.YtpnafccedgjaeaaShape
namespace Go.Proofs.Ytpnafccedgjaeaa
open Go.RowKit
namespace M25
abbrev InSh : Sh := .cat .bool (.cat .bool (.cat .bool (.cat .bool (.cat .bool (.cat .bool (.cat .bool (.cat .bool (.cat .bool .unit))))))))
theorem open_in {W : World} {cs : List Value} (h : InSh.Sat W cs) : ∃ i : In, cs = i.cells := by
  obtain ⟨_, _, rfl, ⟨a, rfl⟩, _, _, rfl, ⟨b, rfl⟩, _, _, rfl, ⟨c, rfl⟩, _, _, rfl, ⟨d, rfl⟩, _, _, rfl, ⟨e, rfl⟩, _, _, rfl, ⟨f, rfl⟩, _, _, rfl, ⟨g, rfl⟩, _, _, rfl, ⟨h, rfl⟩, _, _, rfl, ⟨j, rfl⟩, h0⟩ := h
  simp only [Sh.Sat] at h0
  subst h0
  exact ⟨⟨a, b, c, d, e, f, g, h, j⟩, rfl⟩
theorem walkNext (v0 v1 : Value) (W : World) (h0 : VSat W (.int .i64) false v0) (h1 : VSat W InSh true v1) :
    Calls Try.prog 10 #[v0, v1] W fun e W' => e = .returned (.bool true) ∧ Below W.heap.size W W' := by
  obtain ⟨m, hm, _⟩ := h0
  injection hm with hm
  subst hm
  obtain ⟨cs, rfl, h1⟩ := h1
  obtain ⟨i, rfl⟩ := open_in h1
  exact lawNext_any m i.start i.stop i.broken i.clear i.tried i.found i.missed i.lost i.over W
end M25
end Go.Proofs.Ytpnafccedgjaeaa
