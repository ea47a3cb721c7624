/-
  A range over frame.All: the law of the caller, for two loop variables of which the second is boxed.
-/
import Derived.Test.YtijijfggppnbpaaFrmV
namespace Go.Proofs.Ytijijfggppnbpaa
open Go.RowKit Go.Shelf
set_option linter.unusedVariables false
namespace Frm
open Txt (kind_cases bv bv_one)

/-- the temporaries behind the assignment to the loop's left sides -/
def TT (a : Act) (q1 q2 s1 s2 : Tmp) (x : Nat × Fr) (B : Nat) : Act := { tmps := (((a.tmps.setIfInBounds q1 (.int .i64 (x.1 : Int))).setIfInBounds q2 x.2.v).setIfInBounds s1 (.int .i64 (x.1 : Int))).setIfInBounds s2 (.pointer (some ⟨B, 0, none⟩)), defers := [] }
theorem range_frames {g : Operand} {q1 q2 s1 s2 : Tmp} {assign body : Code} {Q : Exit → Act → World → Prop} {a : Act} {W0 : World} {Bs : Nat} {A : Option Addr} {N cap hi : Nat} {L : List UInt8}
    (hg : a.eval g = .func (.func 63) #[] #[.pointer (some ⟨Bs, 0, none⟩)]) (hL : L.length = N) (hl : N ≤ 1000000) (hNc : N ≤ cap) (hA : A = none → N = 0 ∧ cap = 0) (hbx : Bx Bs A N cap hi L W0)
    (I : List (Nat × Fr) → World → Prop) (Ix : Code → List (Nat × Fr) → World → Prop) (hI : OwnFrom W0.heap.size I) (hIx : ∀ c, OwnFrom W0.heap.size (Ix c)) (h0 : I [] W0) (hIsz : ∀ pre W, I pre W → W0.heap.size ≤ W.heap.size)
    (hassign : ∀ (l : Nat) (x : Nat × Fr) (W : World) (K : Act → World → Prop), K (TT a q1 q2 s1 s2 x W.heap.size) (W.alloc (.cells x.2.cells.toArray 25)) →
      assign.wpIn (Fence.wide.inRound l) 7 Try.prog (Exit.then K (fun _ _ _ => False)) { tmps := (a.tmps.setIfInBounds q1 (.int .i64 (x.1 : Int))).setIfInBounds q2 x.2.v, defers := [] } W)
    (hbody : ∀ (l : Nat) (pre : List (Nat × Fr)) (x : Nat × Fr) (B : Nat) (W : World), W0.heap.size ≤ l → I pre W → W0.heap.size ≤ B → Blk W B 25 x.2.cells → pre.length < N →
      body.wpIn (Fence.wide.inRound l) 7 Try.prog (ownPostG W0.heap.size (fun W W' => Bx Bs A N cap hi L W → Bx Bs A N cap hi L W') I Ix (pre ++ [x]) W) (TT a q1 q2 s1 s2 x B) W)
    (hdone : ∀ (D : Nat) (W : World), W0.heap.size ≤ D → I (allL L 0) W → W.heap[D]? = some (.deferred (some [])) → Q .normal { a with defers := { target := .collected D, args := #[] } :: a.defers } W)
    (hstop : ∀ (D : Nat) (c : Code) (pre : List (Nat × Fr)) (W : World), W0.heap.size ≤ D → pre <+: allL L 0 → Ix c pre W → W.heap[D]? = some (.deferred (some [])) → c.wp Try.prog Q { a with defers := { target := .collected D, args := #[] } :: a.defers } W) :
    (Code.rangeFunc g #[q1, q2] assign body).wp Try.prog Q a W0 := by
  refine (wpIn_wide (n := 9)).1 ?_
  refine wpIn_rangeFunc_ownH rfl (by decide) (gf := 63) (lb := #[.pointer (some ⟨Bs, 0, none⟩)]) hg trivial (enters_of Try.func63 (by kernel_rfl) rfl)
    (all_stops 8 (by decide) Bs A N cap hi L hL hl hNc hA W0 hbx) (fun h k x => k (h x)) (fun W l o o' _ hl ho _ => bx_putObj W l o o' hl ho) (Below.refl _ _) (fun _ => rfl) I Ix hI hIx h0
    (fun x a' W => ∃ B, W0.heap.size ≤ B ∧ Blk W B 25 x.2.cells ∧ a' = TT a q1 q2 s1 s2 x B) ?_ ?_ ?_ ?_ ?_
  · intro x a' s A' B' row hs hgr hr
    obtain ⟨B, h1, h2, h3⟩ := hs
    refine ⟨B, h1, h2.grown hgr (fun e => ?_), h3⟩
    obtain ⟨_, o, ho, hc⟩ := hr B e.symm
    rw [show A'.heap[B]? = _ from h2] at ho
    injection ho with ho
    subst ho
    cases hc
  · intro l pre x W K hi hK
    have e : ((#[q1, q2] : Array Tmp).zip (encA x)).foldl (fun t (pv : Tmp × Value) => t.setIfInBounds pv.1 pv.2) a.tmps = (a.tmps.setIfInBounds q1 (.int .i64 (x.1 : Int))).setIfInBounds q2 x.2.v := by simp [encA]
    have e2 := hassign l x W K (hK _ _ ((KeepsOthers.alloc W _).from _) (fun h => h.next (bl W _)) (hI.alloc _ hi) ⟨W.heap.size, hIsz pre W hi, Blk.mk W 25 x.2.cells, rfl⟩)
    rw [← e] at e2
    exact e2
  · rintro l pre x a' W hl' _ hi ⟨B, h1, h2, rfl⟩ hlen
    exact hbody l pre x B W hl' hi h1 h2 hlen
  · rintro D xs W hD rfl hi hK
    exact hdone D W hD hi hK
  · rintro D c pre W hD hpre hi hK
    exact (wpIn_wide (n := 9)).2 (hstop D c pre W hD hpre hi hK)
end Frm
end Go.Proofs.Ytijijfggppnbpaa
