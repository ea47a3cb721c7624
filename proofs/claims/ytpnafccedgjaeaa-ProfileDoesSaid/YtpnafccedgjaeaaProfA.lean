/-
  The acts that the laws of package profile are given: how they read.
-/
import Derived.Test.YtpnafccedgjaeaaProfV
import Derived.Test.YtpnafccedgjaeaaShape
namespace Go.Proofs.Ytpnafccedgjaeaa
open Go.RowKit
namespace Prof

structure Ac where
  kind : Int
  dx : Int
  dy : Int
  z : Int
def okI (x : Int) : Prop := -9223372036854775808 ≤ x ∧ x ≤ 9223372036854775807
/-- the slice at A reads as the acts l -/
def RdA (w : World) (B : Nat) (A : Option Addr) (l : List Ac) : Prop :=
  (∀ i (h : i < l.length), okI l[i].kind ∧ okI l[i].dx ∧ okI l[i].dy ∧ okI l[i].z) ∧
  (l = [] ∨ ∃ b off, A = some ⟨b, off, none⟩ ∧ b < B ∧ ∀ i (h : i < l.length), w.cell? ⟨b, off + i * 4, none⟩ = some (.int .i64 l[i].kind) ∧ w.cell? ⟨b, off + i * 4 + 1, none⟩ = some (.int .i64 l[i].dx) ∧ w.cell? ⟨b, off + i * 4 + 2, none⟩ = some (.int .i64 l[i].dy) ∧ w.cell? ⟨b, off + i * 4 + 3, none⟩ = some (.int .i64 l[i].z))
theorem RdA.below {w w' : World} {B : Nat} {A : Option Addr} {l : List Ac} (h : RdA w B A l) (hb : Below B w w') : RdA w' B A l := by
  refine ⟨h.1, ?_⟩
  rcases h.2 with h | ⟨b, off, e, hlt, hc⟩
  · exact .inl h
  · have hk := fun o => hb.cell (p := ⟨b, o, none⟩) hlt
    exact .inr ⟨b, off, e, hlt, fun i hi => ⟨(hk _).trans (hc i hi).1, (hk _).trans (hc i hi).2.1, (hk _).trans (hc i hi).2.2.1, (hk _).trans (hc i hi).2.2.2⟩⟩
theorem RdA.at {w : World} {B : Nat} {A : Option Addr} {l : List Ac} (h : RdA w B A l) {k : Nat} (hk : k < l.length) : ∃ b off, A = some ⟨b, off, none⟩ ∧ w.cell? ⟨b, off + k * 4, none⟩ = some (.int .i64 l[k].kind) ∧ w.cell? ⟨b, off + k * 4 + 1, none⟩ = some (.int .i64 l[k].dx) ∧ w.cell? ⟨b, off + k * 4 + 2, none⟩ = some (.int .i64 l[k].dy) ∧ w.cell? ⟨b, off + k * 4 + 3, none⟩ = some (.int .i64 l[k].z) := by
  rcases h.2 with rfl | ⟨b, off, e, hlt, hc⟩
  · cases hk
  · exact ⟨b, off, e, hc k hk⟩
def AcSh : Sh := .cat (.int .i64) (.cat (.int .i64) (.cat (.int .i64) (.cat (.int .i64) .unit)))
theorem open_ac {W : World} {cs : List Value} (h : AcSh.Sat W cs) : ∃ a : Ac, cs = [.int .i64 a.kind, .int .i64 a.dx, .int .i64 a.dy, .int .i64 a.z] ∧ okI a.kind ∧ okI a.dx ∧ okI a.dy ∧ okI a.z := by
  obtain ⟨_, _, rfl, ⟨a, rfl, ha⟩, _, _, rfl, ⟨b, rfl, hb⟩, _, _, rfl, ⟨c, rfl, hc⟩, _, _, rfl, ⟨d, rfl, hd⟩, h0⟩ := h
  simp only [Sh.Sat] at h0
  subst h0
  exact ⟨⟨a, b, c, d⟩, rfl, bounds_i64 ha, bounds_i64 hb, bounds_i64 hc, bounds_i64 hd⟩
theorem open_acts {W : World} {v : Value} (h : VSat W (.slice AcSh) false v) : ∃ A l cap, v = .slice A (List.length l) cap ∧ RdA W W.heap.size A l ∧ l.length ≤ maxLen := by
  obtain ⟨A, len, cap, e, hl, hm, hc⟩ := h
  injection e with e
  subst e
  by_cases h0 : len = 0
  · subst h0
    exact ⟨A, [], cap, rfl, ⟨(fun i h => by cases h), .inl rfl⟩, by simp [maxLen]⟩
  rcases hc with ⟨_, h0', _⟩ | h0' | ⟨b, off, rfl, hb, hi⟩
  · exact absurd h0' h0
  · exact absurd h0'.1 h0
  · have hi' : ∀ i, i < len → ∃ x : Ac, (∀ j u, [Value.int .i64 x.kind, .int .i64 x.dx, .int .i64 x.dy, .int .i64 x.z][j]? = some u → W.cell? ⟨b, off + i * 4 + j, none⟩ = some u) ∧ okI x.kind ∧ okI x.dx ∧ okI x.dy ∧ okI x.z := by
      intro i hil
      obtain ⟨cs, _, hc, hs⟩ := hi i hil
      obtain ⟨x, rfl, hx⟩ := open_ac hs
      exact ⟨x, hc, hx⟩
    obtain ⟨L, rfl, hL⟩ := list_of hi'
    exact ⟨_, L, cap, rfl, ⟨fun i h => (hL i h).2, .inr ⟨b, off, rfl, hb, fun i h => ⟨(hL i h).1 0 _ rfl, (hL i h).1 1 _ rfl, (hL i h).1 2 _ rfl, (hL i h).1 3 _ rfl⟩⟩⟩, by omega⟩
end Prof
end Go.Proofs.Ytpnafccedgjaeaa
